/- Texts on the way to a law (H7, E15, E16, H8), each with its own remark. -/
import Derived.Test.YtnomlkkhkacajaaGreatDoorPC26
import Derived.Test.YtnomlkkhkacajaaGreatDoorPC04
import Derived.Test.YtnomlkkhkacajaaGreatDoorPC27
import Derived.Test.YtnomlkkhkacajaaGreatDoorPC24
import Derived.Test.YtnomlkkhkacajaaGreatDoorPC11
import Derived.Test.YtnomlkkhkacajaaGreatDoorPC32
import Derived.Test.YtnomlkkhkacajaaGreatDoorPC31
namespace Go.Proofs.YtnomlkkhkacajaaGreatDoor
open Go.RowKit

/-- All numbers of a desk are finite. -/
structure DkF (d : Dk) : Prop where
  now : ∀ i, i < d.now.length → finB (nth d.now i) = true
  past : ∀ x ∈ d.past, ∀ i, i < x.length → finB (nth x i) = true
theorem DkF.of {d : Dk} (h : dkB d = true) : DkF d := by
  obtain ⟨h1, _, h3⟩ := dkB_iff.1 h
  exact ⟨fun i hi => fin_mk h1 hi, fun x hx i hi => fin_mk (h3 x hx) hi⟩
theorem DkF.zero : DkF dk0 := ⟨fun i hi => absurd hi (by simp [dk0]), fun x hx => by cases hx⟩
set_option maxHeartbeats 1000000 in
theorem samePieces_true (A A' : Option Addr) (m c c' : Nat) (ps : List (List C)) (w : World) (hm : m ≤ 1048576) (h1 : Ps w 0 A m ps) (h2 : Ps w 0 A' m ps) (hl : ∀ x ∈ ps, x.length ≤ 1048576) (hf : ∀ x ∈ ps, ∀ i, i < x.length → finB (nth x i) = true) :
    Calls Tryz.prog 42 #[.slice A m c, .slice A' m c'] w fun e w' => e = .returned (.bool true) ∧ Dr w w' := by
  have H1 := Lib.hid h1
  have H2 := Lib.hid h2
  have HL := Lib.hid hl
  have HF := Lib.hid hf
  clear h1 h2 hl hf
  go_enter Tryz.func42, Tryz.ntmps42
  go_wp2_with fail
  go_loopw [5] (fun i wr => ∃ k : Nat, k ≤ m ∧ i = .int .i64 k ∧ ∃ q, wr = w.drewN q) (fun i _ => m - (intOf i).toNat)
  case atStart => exact ⟨0, by omega, rfl, 0, rfl⟩
  case round =>
    obtain ⟨k, hk, rfl, q, rfl⟩ := hrel
    by_cases hlt : k < m
    · obtain ⟨b, o, x, A2, n2, c2, rfl, hb, hx, hc, hs⟩ := H1.out.at_ hlt
      obtain ⟨b', o', y, A3, n3, c3, rfl, hb', hy, hc', hs'⟩ := H2.out.at_ hlt
      obtain rfl : x = y := by rw [hx] at hy; exact Option.some.inj hy
      obtain rfl : n2 = n3 := by have e1 := hs.len; have e2 := hs'.len; omega
      have hxm := List.mem_of_getElem? hx
      have hn2 : n2 ≤ 1048576 := by have e1 := hs.len; have := HL.out x hxm; omega
      have hck : (w.drewN q).cell? ⟨b, o + k, none⟩ = some (.slice A2 n2 c2) := hc
      have hck' : (w.drewN q).cell? ⟨b', o' + k, none⟩ = some (.slice A3 n2 c3) := hc'
      have HSX : Hid (∀ r, Calls Tryz.prog 41 #[.slice A2 n2 c2, .slice A3 n2 c3] ((w.drewN q).drewN r) fun e w' => e = .returned (.bool true) ∧ Dr ((w.drewN q).drewN r) w') := fun r => sameSignal_true A2 A3 n2 c2 c3 x x _ hn2 (Cs.drewN (Cs.drewN hs.cs q) r) (Cs.drewN (Cs.drewN hs'.cs q) r) fun i hi => EqV.refl (HF.out x hxm i (by have := hs.len; omega))
      clear hc hc' hs hs' hx hy hxm
      obtain ⟨wr, hwr⟩ : ∃ wr, wr = w.drewN q := ⟨_, rfl⟩
      rw [← hwr] at hck hck' HSX ⊢
      have HW := Lib.hid hwr
      clear hwr
      go_wp2_with fail
      go_quiet ((go_at_call 41; exact Calls.quiet_of (HSX.out _)))
      go_wp2_with fail
      go_roundw
      case rel => exact ⟨k + 1, by omega, by go_num, q + nq, by rw [HW.out, World.drewN_drewN]⟩
      case measure => simp [intOf]; omega
    · go_wp2_with fail
      go_ret
      exact ⟨rfl, q, rfl⟩

set_option maxHeartbeats 1000000 in
theorem sameDesk_true (A A' B B' : Option Addr) (n c m c' n2 c2 m2 c3 : Nat) (d : Dk) (w : World) (h1 : DkV w 0 A n c A' m d) (h2 : DkV w 0 B n2 c2 B' m2 d) (hz : DkS d) (hf : DkF d) :
    Calls Tryz.prog 11 #[.agg #[.slice A n c, .slice A' m c'], .agg #[.slice B n2 c2, .slice B' m2 c3]] w fun e w' => e = .returned (.bool true) ∧ Below w.heap.size w w' := by
  obtain rfl : n = n2 := by have e1 := h1.now.len; have e2 := h2.now.len; omega
  obtain rfl : m = m2 := by have e1 := h1.past.len; have e2 := h2.past.len; omega
  have hn : n ≤ 1048576 := by have := h1.now.len; have := hz.now; omega
  have hm : m ≤ 1048576 := by have := h1.past.len; have := hz.len; omega
  obtain ⟨w0, hw0⟩ : ∃ w0, w0 = (w.alloc (.cells #[.slice A n c, .slice A' m c'] 26)).alloc (.cells #[.slice B n c2, .slice B' m c3] 26) := ⟨_, rfl⟩
  have HB0 : Hid (Below w.heap.size w w0) := by rw [hw0]; exact below2 _ _ _
  have HS : Hid (∀ q, Calls Tryz.prog 41 #[.slice A n c, .slice B n c2] (w0.drewN q) fun e w' => e = .returned (.bool true) ∧ Dr (w0.drewN q) w') := fun q => sameSignal_true A B n c c2 d.now d.now _ hn (Cs.drewN (h1.now.below HB0.out).cs q) (Cs.drewN (h2.now.below HB0.out).cs q) fun i hi => EqV.refl (hf.now i (by have := h1.now.len; omega))
  have HP : Hid (∀ q, Calls Tryz.prog 42 #[.slice A' m c', .slice B' m c3] (w0.drewN q) fun e w' => e = .returned (.bool true) ∧ Dr (w0.drewN q) w') := fun q => samePieces_true A' B' m c' c3 d.past _ hm ((h1.past.below HB0.out).below (below_drewN (Below.refl _ _) q)) ((h2.past.below HB0.out).below (below_drewN (Below.refl _ _) q)) (fun x hx => by have := hz.past x hx; omega) hf.past
  have HS0 : Hid (Calls Tryz.prog 41 #[.slice A n c, .slice B n c2] w0 fun e w' => e = .returned (.bool true) ∧ Dr w0 w') := HS.out 0
  have hk1 : w0.cell? ⟨w.heap.size, 1, none⟩ = some (.slice A' m c') := by rw [hw0]; exact ((KAt.new w (.slice A n c) (.slice A' m c') 26).below (below_alloc _ _) (by rw [size_alloc]; omega)).c1
  have hk2 : w0.cell? ⟨w.heap.size + 1, 1, none⟩ = some (.slice B' m c3) := by
    have h := (KAt.new (w.alloc (.cells #[.slice A n c, .slice A' m c'] 26)) (.slice B n c2) (.slice B' m c3) 26).c1
    rw [size_alloc] at h
    rw [hw0]; exact h
  clear h1 h2 hz hf HS
  go_enter Tryz.func11, Tryz.ntmps11
  go_wp2_with fail
  rw [← hw0]
  clear hw0
  refine HS0.out.mono ?_
  rintro e w1 ⟨rfl, q, rfl⟩
  go_wp2_with fail
  refine (HP.out q).mono ?_
  rintro e w2 ⟨rfl, q2, rfl⟩
  go_wp2_with fail
  go_ret
  exact ⟨rfl, below_drewN HB0.out (q + q2)⟩
end Go.Proofs.YtnomlkkhkacajaaGreatDoor
namespace Go.Proofs.YtnomlkkhkacajaaGreatDoor
open Go.RowKit
open Go.Lib hiding intOf

/-- make([]T, m) comes to its end. -/
theorem make_run {P : Program} {t E : TypeId} {z : Value} {bytes : Nat} (he : Elem P t E z bytes) (w : World) (m : Nat) (b2 : bytes * m ≤ 281474976710656) (b3 : m ≤ maxLen) :
    ∃ w', Sem.run P (Instr.makeSlice t (.int .i64 (m : Int)) (.int .i64 (m : Int))) w = .ok (.slice (some ⟨w.heap.size, 0, none⟩) m m) w' ∧ Ow w' w.heap.size E (.slice (some ⟨w.heap.size, 0, none⟩) m m) m (List.replicate m z) ∧ Below w.heap.size w w' := by
  obtain ⟨i, h2, h3, h4, h5⟩ := he.info
  subst h5
  obtain ⟨w', hrun, r1, r2⟩ := run_make_full (P := P) (w := w) w.heap.size t E i z 1 he.und h2 h3 h4 .i64 .i64 m b2 b3 (Nat.le_refl _)
  rw [he.one, Nat.mul_one, toList_madeCells_one] at r1
  exact ⟨w', hrun, r1, (Below.refl _ _).grown r2 (Nat.le_refl _) (by simp)⟩
/-- One more signal behind a list that lies in none of some blocks. -/
theorem pf_snoc {w w' : World} {B m c n5 c5 c6 : Nat} {X : Nat → Prop} {A A5 A6 : Option Addr} {vs : List Value} {ps : List (List C)} {x : List C} (hov : Ow w B 23 (.slice A m c) m vs) (hpv : Pv w B vs ps) (hpn : Pn (.slice A m c) vs) (hxv : ∀ ad n c, Value.slice (some ad) n c ∈ vs → ¬ X ad.block) (hxo : ∀ b, X b → (Value.slice A m c).ownBlock ≠ some b)
    (hx : Sf w B X A5 n5 c5 x) (hXl : ∀ b, X b → b < w.heap.size) (ho : Ow w' B 23 (.slice A6 (m + 1) c6) (m + 1) (vs ++ [.slice A5 n5 c5])) (hs : w.heap.size ≤ w'.heap.size)
    (hk : ∀ b, b < w.heap.size → (Value.slice A m c).ownBlock ≠ some b → w'.heap[b]? = w.heap[b]?) (hl : ∀ b, b < w.heap.size → (Value.slice A m c).ownBlock ≠ some b → (Value.slice A6 (m + 1) c6).ownBlock ≠ some b) :
    Pf w' B X A6 (m + 1) c6 (ps ++ [x]) := by
  obtain ⟨vs', h1, h2, h3⟩ := Po.snoc hpv hpn hx.sg (hx.sg.ne_own hov) ho hs hk hl
  have e : vs' = vs ++ [.slice A5 n5 c5] := by
    rcases h1.2 with ⟨_, h0⟩ | ⟨g, cap, cur, hv, hg, hh, hn, hc, hz, ht⟩
    · omega
    · rcases ho.2 with ⟨_, h0⟩ | ⟨g', cap', cur', hv', hg', hh', hn', hc', hz', ht'⟩
      · omega
      · rw [hv] at hv'
        injection hv' with e1 e2 e3
        injection e1 with e1
        injection e1 with e1
        subst e1
        rw [hh] at hh'
        injection hh' with hh'
        injection hh' with hh'
        subst hh'
        rw [← ht, ← ht']
  subst e
  refine ⟨_, h1, h2, h3, fun ad e hX => ?_, fun ad n' c' hm hX => ?_⟩
  · refine hl ad.block (hXl _ hX) (hxo _ hX) ?_
    rw [e]; rfl
  · rcases List.mem_append.1 hm with h | h
    · exact hxv ad n' c' h hX
    · rw [List.mem_singleton] at h
      injection h with e1 e2 e3
      exact hx.ne ad e1.symm hX
/-- A desk that is none is given back. -/
theorem odd_ret {w w8 : World} {g gd q pp i : Nat} {A A' : Option Addr} {n c m c' : Nat} {d : Dk} {v : Value} (hn : Sf w8 w.heap.size (fun b => b = gd ∨ b = w.heap.size ∨ b = g) A n c d.now) (hp : Pf w8 w.heap.size (fun b => b = gd ∨ b = w.heap.size ∨ b = g) A' m c' d.past) (hs : DkS d) (hb : dkB d = false)
    (hr : Rd w8 g q) (hq : q ≤ pp) (hpk : Pk g w w8) (hgt : w.heap.size < gd) (hlt : g < w.heap.size) :
    RetDk w g pp (.returned (.agg #[.slice A n c, .slice A' m c'])) (((w8.setCell ⟨gd, i, none⟩ v).setCell ⟨w.heap.size, 0, none⟩ (.slice A n c)).setCell ⟨w.heap.size, 1, none⟩ (.slice A' m c')) := by
  have hk : Kx (fun b => b = gd ∨ b = w.heap.size ∨ b = g) w8 (w8.setCell ⟨gd, i, none⟩ v) := Kx.set w8 (p := ⟨gd, i, none⟩) (.inl rfl) _
  have hbl : Below gd w8 (w8.setCell ⟨gd, i, none⟩ v) := (Below.refl _ w8).setCell (p := ⟨gd, i, none⟩) (Nat.le_refl _) _
  exact ret_dk (.inr (.inl rfl)) (hn.kx hk) (hp.kx hk) hs (fun h => by rw [hb] at h; cases h) (hr.belowB hbl (by omega)) hq (hpk.belowB hbl (by omega)) hlt
theorem odd_now {w w7 : World} {g gd p k q pp i B : Nat} {A A' A5 : Option Addr} {n c m c' : Nat} {d : Dk} {v : Value} (h : Dr3 w g gd p k w7 A n c A' m c' d) (hB : gd < B) (hx : Sg w7 B A5 17 17 (List.replicate 17 (0, 0))) (hr : Rd w7 g q) (hq : q ≤ pp) :
    RetDk w g pp (.returned (.agg #[.slice A5 17 17, .slice A' m c'])) (((w7.setCell ⟨gd, i, none⟩ v).setCell ⟨w.heap.size, 0, none⟩ (.slice A5 17 17)).setCell ⟨w.heap.size, 1, none⟩ (.slice A' m c')) := by
  have hgt := h.gt
  have hlt := h.lt
  exact odd_ret (d := ⟨List.replicate 17 (0, 0), d.past⟩) ((hx.sf fun b h1 h2 hx => by omega).mono (by omega)) h.past ⟨(by show (List.replicate 17 _).length ≤ 17; rw [List.length_replicate]; omega), h.ok.len, h.ok.past⟩ (dkB_now bad17) hr hq h.pk h.gt h.lt
theorem odd_past {w w7 w8 : World} {g gd p k q pp i B : Nat} {A A' A5 A6 : Option Addr} {n c m c' c6 : Nat} {d : Dk} {vs : List Value} {v : Value} (h : Dr3 w g gd p k w7 A n c A' m c' d) (hk : k ≤ 8) (hB : gd < B) (hx : Sg w7 B A5 17 17 (List.replicate 17 (0, 0)))
    (hov : Ow w7 w.heap.size 23 (.slice A' m c') m vs) (hpv : Pv w7 w.heap.size vs d.past) (hpn : Pn (.slice A' m c') vs) (hxo : ∀ ad, A' = some ad → ¬ (ad.block = gd ∨ ad.block = w.heap.size ∨ ad.block = g)) (hxv : ∀ ad n c, Value.slice (some ad) n c ∈ vs → ¬ (ad.block = gd ∨ ad.block = w.heap.size ∨ ad.block = g))
    (ho : Ow w8 w.heap.size 23 (.slice A6 (m + 1) c6) (m + 1) (vs ++ [.slice A5 17 17])) (hb8 : Below w.heap.size w7 w8)
    (hf : ∀ b, b < w7.heap.size → (Value.slice A' m c').ownBlock ≠ some b → w8.heap[b]? = w7.heap[b]?) (hl : ∀ b, b < w7.heap.size → (Value.slice A' m c').ownBlock ≠ some b → (Value.slice A6 (m + 1) c6).ownBlock ≠ some b) (hr : Rd w7 g q) (hq : q ≤ pp) :
    KAt w8 gd (.slice A n c) (.slice A' m c') ∧ KAt w8 w.heap.size (.slice none 0 0) (.slice none 0 0) ∧
    RetDk w g pp (.returned (.agg #[.slice A n c, .slice A6 (m + 1) c6])) (((w8.setCell ⟨gd, i, none⟩ v).setCell ⟨w.heap.size, 0, none⟩ (.slice A n c)).setCell ⟨w.heap.size, 1, none⟩ (.slice A6 (m + 1) c6)) := by
  have hgt := h.gt
  have hlt := h.lt
  have hgl := h.at_.lt
  have hown : ∀ b, b = gd ∨ b = w.heap.size ∨ b = g → (Value.slice A' m c').ownBlock ≠ some b := fun b hb e => by
    cases A' with
    | none => cases e
    | some a =>
      injection e with e
      exact hxo a rfl (by rw [e]; exact hb)
  have hkb : ∀ b, b = gd ∨ b = w.heap.size ∨ b = g → b < w7.heap.size := fun b hb => by omega
  have hX : ∀ b, B ≤ b → b < w7.heap.size → ¬ (b = gd ∨ b = w.heap.size ∨ b = g) := fun b h1 h2 hx => by omega
  have hpf := pf_snoc (x := List.replicate 17 ((0, 0) : C)) hov hpv hpn hxv hown ((hx.sf hX).mono (by omega)) hkb ho hb8.size hf hl
  have hnow : Sf w8 w.heap.size (fun b => b = gd ∨ b = w.heap.size ∨ b = g) A n c d.now := ⟨h.now.sg.keep hb8.size fun ad e hlt => hf ad.block hlt (h.now.sg.ne_own hov ad e), h.now.ne⟩
  refine ⟨h.at_.keep hb8.size (hf gd hgl (hown gd (.inl rfl))), h.res.keep hb8.size (hf _ (hkb _ (.inr (.inl rfl))) (hown _ (.inr (.inl rfl)))), ?_⟩
  have hlen := h.len
  refine odd_ret (d := ⟨d.now, d.past ++ [List.replicate 17 (0, 0)]⟩) hnow hpf ⟨h.ok.now, ?_, fun y hy => ?_⟩ ?_ (hr.belowB hb8 hlt) hq (h.pk.belowB hb8 (Nat.le_refl _)) hgt hlt
  · show (d.past ++ [_]).length ≤ 9
    rw [List.length_append, List.length_singleton]; omega
  · rcases List.mem_append.1 hy with hy | hy
    · exact h.ok.past y hy
    · rw [List.mem_singleton] at hy
      rw [hy]; decide
  · exact dkB_past (k := d.past.length) (by show (d.past ++ [_])[d.past.length]? = _; rw [List.getElem?_append_right (Nat.le_refl _), Nat.sub_self]; rfl) bad17
theorem odd_all {w w7 : World} {g gd p k q pp i B : Nat} {A A' A5 : Option Addr} {n c m c' : Nat} {d : Dk} {v : Value} (h : Dr3 w g gd p k w7 A n c A' m c' d) (hB : gd < B) (hx : Ow w7 B 23 (.slice A5 9 9) 9 (List.replicate 9 (.slice none 0 0))) (hr : Rd w7 g q) (hq : q ≤ pp) :
    RetDk w g pp (.returned (.agg #[.slice A n c, .slice A5 9 9])) (((w7.setCell ⟨gd, i, none⟩ v).setCell ⟨w.heap.size, 0, none⟩ (.slice A n c)).setCell ⟨w.heap.size, 1, none⟩ (.slice A5 9 9)) := by
  have hgt := h.gt
  have hlt := h.lt
  refine odd_ret (d := ⟨d.now, List.replicate 9 []⟩) h.now ((made9 hx fun b h1 h2 hx => by omega).mono (by omega)) ⟨h.ok.now, (by show (List.replicate 9 _).length ≤ 9; rw [List.length_replicate]; omega), fun y hy => ?_⟩ (dkB_len (by show 8 < (List.replicate 9 _).length; rw [List.length_replicate]; omega)) hr hq h.pk hgt hlt
  rw [(List.mem_replicate.1 hy).2]; decide

set_option maxHeartbeats 4000000 in
set_option maxRecDepth 100000 in
theorem desk_any (g p : Nat) (nn : Int) (w : World) (hp : p ≤ 300000) (hn : nn ≤ 1000000) (hr : Rd w g p) :
    Calls Tryz.prog 33 #[.pointer (some ⟨g, 0, none⟩), .int .i64 nn] w (RetDk w g (p + 400)) := by
  have hlt := hr.lt
  obtain ⟨w0, hw0⟩ : ∃ w0, w0 = (w.alloc (.cells #[.slice none 0 0, .slice none 0 0] 26)).alloc (.cells #[.int .i64 0, .int .i64 4, .int .i64 4, .int .i64 2, .int .i64 8] 3) := ⟨_, rfl⟩
  have hs0 : w0.heap.size = w.heap.size + 1 + 1 := by rw [hw0, size_alloc, size_alloc]
  have HB0 : Hid (Below w.heap.size w w0) := by rw [hw0]; exact below2 _ _ _
  have HK0 : Hid (KAt w0 w.heap.size (.slice none 0 0) (.slice none 0 0)) := by rw [hw0]; exact (KAt.new w _ _ _).below (below_alloc _ _) (by rw [size_alloc]; omega)
  have HC0 : Hid (∀ j v, (#[.int .i64 0, .int .i64 4, .int .i64 4, .int .i64 2, .int .i64 8] : Array Value)[j]? = some v → w0.cell? ⟨w.heap.size + 1, j, none⟩ = some v) := fun j v hj => by
    have e : w.heap.size + 1 = (w.alloc (.cells #[.slice none 0 0, .slice none 0 0] 26)).heap.size := (size_alloc _ _).symm
    rw [hw0, e, World.cell?_alloc_at _ _ _ _ rfl]; exact hj
  have HR0 := Lib.hid (hr.below HB0.out)
  have HPK0 : Hid (Pk g w w0) := Pk.of_below HB0.out
  clear hr
  go_enter Tryz.func33, Tryz.ntmps33
  go_wp2_with fail
  rw [← hw0]
  clear hw0
  refine (pick_any g p 5 _ (by omega) (by omega) HR0.out).mono ?_
  rintro e w1 ⟨v, rfl, ⟨v1, v2, _⟩, hr1, hp1⟩
  have v3 := v2 (by omega)
  obtain ⟨j, rfl⟩ := Int.eq_ofNat_of_zero_le v1
  obtain ⟨q, hq, hcq⟩ := pts_get j (by omega)
  have hck : w1.cell? ⟨w.heap.size + 1, j, none⟩ = some (.int .i64 (q : Int)) := (hp1.cell (p := ⟨w.heap.size + 1, j, none⟩) (by rw [hs0]; exact Nat.lt_succ_self _) (by show w.heap.size + 1 ≠ g; omega)).trans (HC0.out _ _ hcq)
  have HR1 := Lib.hid hr1
  have HP1 := Lib.hid hp1
  have HK1 := Lib.hid (HK0.out.pk hp1 (by omega))
  clear hr1 hp1 hcq v2
  go_wp2_with fail
  refine (signal_any g (p + 1) q 0 w1 (by omega) (by omega) (by omega) HR1.out).mono ?_
  rintro e w2 ⟨A, n, c, xs, rfl, ho, hx17, _, hord, hr2, hp2⟩
  have HSG : Hid (Sg w2 w1.heap.size A n c xs) := Sg.of (by have h1 := ho.len; rw [List.length_map] at h1; exact ho)
  have HST := Lib.hid (dk_start (hord (by omega)) hx17)
  have HR2 : Hid (Rd w2 g (p + 60)) := hr2.mono (by omega)
  have HPK2 : Hid (Pk g w w2) := (HPK0.out.trans HP1.out).trans hp2
  have HK2 := Lib.hid (HK1.out.pk hp2 (by omega))
  have hz12 : w1.heap.size ≤ w2.heap.size := hp2.size
  have hz01 : w.heap.size + 1 + 1 ≤ w1.heap.size := by rw [← hs0]; exact HP1.out.size
  have hn17 : n ≤ 17 := by have := HSG.out.len; omega
  clear ho hord hr2 hp2
  obtain ⟨w3, hw3⟩ : ∃ w3, w3 = w2.alloc (.cells #[.slice A n c, .slice none 0 0] 26) := ⟨_, rfl⟩
  have hs3 : w3.heap.size = w2.heap.size + 1 := by rw [hw3, size_alloc]
  have HB3 : Hid (Below w2.heap.size w2 w3) := by rw [hw3]; exact below_alloc _ _
  have HG3 := Lib.hid (KAt.new w2 (.slice A n c) (.slice none 0 0) 26)
  rw [← hw3] at HG3
  have HD3 : Hid (Dr3 w g w2.heap.size (p + 61) 0 w3 A n c none 0 0 ⟨xs, []⟩) := by
    have hX : ∀ b, w1.heap.size ≤ b → b < w2.heap.size → ¬ (b = w2.heap.size ∨ b = w.heap.size ∨ b = g) := fun b h1 h2 hx => by omega
    exact ⟨HG3.out, HK2.out.below HB3.out (by omega), ((HSG.out.sf hX).mono (by omega)).kx (Kx.of HB3.out), Pf.nil _ _ _, HST.out.1, fun _ => HST.out.2, Nat.le_refl _, (HR2.out.below HB3.out).mono (by omega), HPK2.out.trans (Pk.of_below HB3.out), by omega, hlt⟩
  go_wp2_with fail
  rw [← hw3]
  clear hw3
  have HR3 := Lib.hid HD3.out.rd
  refine (pick_any g (p + 61) 5 _ (by omega) (by omega) HR3.out).mono ?_
  rintro e w4 ⟨v, rfl, ⟨v1, v2, _⟩, hr4, hp4⟩
  have v4 := v2 (by omega)
  obtain ⟨r0, rfl⟩ := Int.eq_ofNat_of_zero_le v1
  have hr04 : r0 ≤ 4 := by omega
  have HD4 : Hid (Dr3 w g w2.heap.size (p + 62) 0 w4 A n c none 0 0 ⟨xs, []⟩) := by
    have h := HD3.out
    exact ⟨h.at_.pk hp4 (by omega), h.res.pk hp4 (by omega), h.now.kx (Kx.pk hp4 (.inr (.inr rfl))), h.past.kx (Kx.pk hp4 (.inr (.inr rfl))), h.ok, h.lv, h.len, hr4, h.pk.trans hp4, h.gt, h.lt⟩
  have hgdw : w.heap.size < w2.heap.size := by omega
  clear hr4 hp4 v2 hck
  go_wp2_with fail
  go_loopw [6] (fun i wr => ∃ (r k : Nat) (A : Option Addr) (n c : Nat) (A' : Option Addr) (m c' : Nat) (d : Dk), r + k ≤ 4 ∧ i = .int .i64 r ∧ Dr3 w g w2.heap.size (p + 62) k wr A n c A' m c' d) (fun i _ => (intOf i).toNat)
  case atStart => first | exact ⟨r0, 0, _, _, _, _, _, _, _, by omega, rfl, HD4.out⟩ | ((repeat apply Exists.intro); exact ⟨by omega, rfl, HD4.out⟩)
  case round =>
    obtain ⟨r, k, A, n, c, A', m, c', d, hrk, rfl, hd⟩ := hrel
    have HD := Lib.hid hd
    obtain ⟨c0, c1, f0, f1, fl⟩ := hd.at_
    by_cases hr : 0 < r
    · have KDE : Hid (∀ w', Rd w' g (p + 62 + 71 * k) → Calls Tryz.prog 34 #[.pointer (some ⟨g, 0, none⟩)] w' (RetLD w' g (p + 62 + 71 * k + 70))) := fun w' h => deed_any g (p + 62 + 71 * k) w' (by omega) h
      have KDO : Hid (∀ w' (a : Dd), DkV w' 0 A n c A' m d → a.text.length ≤ 706 → Calls Tryz.prog 10 #[.agg #[.slice A n c, .slice A' m c'], dv a] w' (RetKB w' (doF d a))) := fun w' a h ht => sDeskDo A A' n c m c' d a w' h hd.ok (fun hk => (hd.lv hk).lvok (by omega) (by omega)) (by omega)
      have hgg : ¬ w2.heap.size = g := by omega
      have hk3 : k ≤ 3 := by omega
      obtain ⟨r', rfl⟩ : ∃ r', r = r' + 1 := ⟨r - 1, by omega⟩
      have hrk2 : r' + (k + 1) ≤ 4 := by omega
      clear hd
      go_wp2_with fail
      have hwz : w2.heap.size < wr.heap.size := fl
      go_region_law ((first
        | (go_simp; go_at_call 34; first
            | ((with_reducible refine Calls.mono (KDE.out _ (Rd.drew HD.out.rd)) ?_); rintro e w5 ⟨a, rfl, ha, _, _, hr5, hp5⟩; have HP5 : Hid (Pk g wr w5) := Pk.of_drewN (m := 1) hp5; have HR5 : Hid (Rd w5 g (p + 62 + 71 * (k + 1))) := hr5.mono (by omega); clear hr5 hp5; obtain ⟨c0, c1, f0, f1, fl⟩ := HD.out.at_.pk HP5.out hgg)
            | ((with_reducible refine Calls.mono (KDE.out _ (Rd.drew (HD.out.rd.below (below_alloc _ _)))) ?_); rintro e w5 ⟨a, rfl, ha, _, _, hr5, hp5⟩; have HP5 : Hid (Pk g wr w5) := (Pk.of_below (below_alloc _ _)).trans (Pk.of_drewN (m := 1) hp5); have HXB5 := Lib.hid ((KAt.new wr (.slice none 0 0) (.slice none 0 0) 26).pk (Pk.of_drewN (m := 1) hp5) (by omega)); have HR5 : Hid (Rd w5 g (p + 62 + 71 * (k + 1))) := hr5.mono (by omega); clear hr5 hp5; obtain ⟨c0, c1, f0, f1, fl⟩ := HD.out.at_.pk HP5.out hgg; obtain ⟨x0, x1, x2, x3, x4⟩ := HXB5.out))
        | (go_simp; go_at_call 10; first
            | ((with_reducible refine Calls.mono (KDO.out w5 a (DkV.mono (HD.out.keep HP5.out HR5.out).dkv (Nat.zero_le _)) ha) ?_); rintro e w6 ⟨A2, n2, c2, A3, m2, c3, rfl, hs6, _, hpo6, hb6⟩; have HPC := HP5; have HRC := HR5; (try (obtain ⟨x0, x1, x2, x3, x4⟩ := HXB5.out.below hb6 HXB5.out.lt)); have HP6 : Hid (Pk g wr w6) := HPC.out.trans (Pk.of_below hb6); have HR6 : Hid (Rd w6 g (p + 62 + 71 * (k + 1))) := HRC.out.below hb6; have HS6 := Lib.hid hs6; have HPO6 := Lib.hid hpo6; clear hpo6 hs6; obtain ⟨c0, c1, f0, f1, fl⟩ := HD.out.at_.pk HP6.out hgg)
            | ((with_reducible refine Calls.mono (KDO.out _ a (DkV.mono ((HD.out.keep HP5.out HR5.out).dkv.below (below_alloc _ _)) (Nat.zero_le _)) ha) ?_); rintro e w6 ⟨A2, n2, c2, A3, m2, c3, rfl, hs6, _, hpo6, hb6⟩; have HPC := Lib.hid (HP5.out.trans (Pk.of_below (below_alloc w5 (.cells #[.slice none 0 0, .slice none 0 0] 26)))); have HRC := Lib.hid (HR5.out.below (below_alloc w5 (.cells #[.slice none 0 0, .slice none 0 0] 26))); obtain ⟨x0, x1, x2, x3, x4⟩ := (KAt.new w5 (.slice none 0 0) (.slice none 0 0) 26).below hb6 (by rw [size_alloc]; omega); have HP6 : Hid (Pk g wr w6) := HPC.out.trans (Pk.of_below hb6); have HR6 : Hid (Rd w6 g (p + 62 + 71 * (k + 1))) := HRC.out.below hb6; have HS6 := Lib.hid hs6; have HPO6 := Lib.hid hpo6; clear hpo6 hs6; obtain ⟨c0, c1, f0, f1, fl⟩ := HD.out.at_.pk HP6.out hgg))))
      all_goals
        cases hok : (doF d a).2
        · go_wp2_with fail
          go_roundw
          case rel => first
            | exact ⟨r', k + 1, _, _, _, _, _, _, _, hrk2, by go_num, HD.out.formA HP6.out HR6.out _⟩
            | exact ⟨r', k + 1, _, _, _, _, _, _, _, hrk2, by go_num, HD.out.formS HP6.out HR6.out (Nat.le_refl _) _ _⟩
            | exact ⟨r', k + 1, _, _, _, _, _, _, _, hrk2, by go_num, HD.out.formS HP6.out HR6.out HP5.out.size _ _⟩
          case measure => simp [intOf]
        · go_wp2_with fail
          go_roundw
          case rel => first
            | exact ⟨r', k + 1, _, _, _, _, _, _, _, hrk2, by go_num, (HD.out.done2 hk3 (HD.out.keep HP6.out HR6.out) hok (Nat.lt_of_lt_of_le hwz HPC.out.size) HS6.out (fun hl => HPO6.out hl)).below (below_alloc _ _)⟩
            | exact ⟨r', k + 1, _, _, _, _, _, _, _, hrk2, by go_num, HD.out.done2 hk3 (HD.out.formS HP6.out HR6.out (Nat.le_refl _) _ _) hok (Nat.lt_of_lt_of_le hwz HPC.out.size) (HS6.out.pk (((Pk.refl _ _).setCell 0 _).setCell 1 _) HXB5.out.lt) (fun hl => (HPO6.out hl).pk (((Pk.refl _ _).setCell 0 _).setCell 1 _) HXB5.out.lt)⟩
            | exact ⟨r', k + 1, _, _, _, _, _, _, _, hrk2, by go_num, HD.out.done2 hk3 (HD.out.formS HP6.out HR6.out HP5.out.size _ _) hok (Nat.lt_of_lt_of_le hwz HPC.out.size) (HS6.out.pk (((Pk.refl _ _).setCell 0 _).setCell 1 _) (by rw [size_alloc]; exact Nat.lt_succ_self _)) (fun hl => (HPO6.out hl).pk (((Pk.refl _ _).setCell 0 _).setCell 1 _) (by rw [size_alloc]; exact Nat.lt_succ_self _))⟩
          case measure => simp [intOf]
    · obtain rfl : r = 0 := by omega
      have hk4 : k ≤ 4 := by omega
      have hgg : ¬ w2.heap.size = g := by omega
      clear hd
      go_wp2_with fail
      refine (odd_any g (p + 62 + 71 * k) nn wr (by omega) hn HD.out.rd).mono ?_
      rintro e w5 ⟨b, rfl, _, hr5, hp5⟩
      have HD5 := Lib.hid (HD.out.keep hp5 (hr5.mono (by omega)))
      have HR5 := Lib.hid hr5
      clear hr5 hp5 c0 c1 f0 f1 fl
      obtain ⟨c0, c1, f0, f1, fl⟩ := HD5.out.at_
      obtain ⟨s0, s1, t0, t1, tl⟩ := HD5.out.res
      cases b with
      | false =>
        have HR := Lib.hid (ret_dk (p := p + 400) (.inr (.inl rfl)) HD5.out.now HD5.out.past HD5.out.ok (fun h => (HD5.out.lv h).mono (by omega)) HR5.out (by omega) HD5.out.pk hlt)
        go_wp2_with fail
        refine bodyPost_ret (v := .agg #[.slice A n c, .slice A' m c']) (by simp [results, Tryz.results33, go_sem, s0, s1]) rfl ?_
        exact HR.out
      | true =>
        go_wp2_with fail
        refine (pick_any g (p + 63 + 71 * k) 3 w5 (by omega) (by omega) (HR5.out.mono (by omega))).mono ?_
        rintro e w6 ⟨v, rfl, ⟨v1, v2, _⟩, hr6, hp6⟩
        have v3 := v2 (by omega)
        have HD6 := Lib.hid (HD5.out.keep hp6 (hr6.mono (by omega)))
        have HR6 : Hid (Rd w6 g (p + 390)) := hr6.mono (by omega)
        clear hr6 hp6 c0 c1 f0 f1 fl s0 s1 t0 t1 tl v2
        obtain ⟨c0, c1, f0, f1, fl⟩ := HD6.out.at_
        have hv : v = 0 ∨ v = 1 ∨ v = 2 := by omega
        rcases hv with rfl | rfl | rfl
        · go_wp2_with (at_make; refine wl_make (w0 := w6) rfl (.const (.int .i64 17)) (.const (.int .i64 17)) 23 rfl Tryz.eC .i64 .i64 17 _ _ rfl rfl rfl rfl (by omega) (by unfold maxLen; omega) (Below.refl _ _) ?_; intro w7 hown hb7 _; have HM := Lib.hid (made17 hown); have HB7 := Lib.hid hb7; have HD7 := Lib.hid (HD6.out.below hb7); clear hown hb7 c0 c1 f0 f1 fl; obtain ⟨c0, c1, f0, f1, fl⟩ := HD7.out.at_; obtain ⟨s0, s1, t0, t1, tl⟩ := HD7.out.res; have hgb : ¬ w2.heap.size = w.heap.size := (by omega); have hgb2 : ¬ w.heap.size = w2.heap.size := (by omega))
          refine bodyPost_ret (v := .agg #[.slice (some ⟨w6.heap.size, 0, none⟩) 17 17, .slice A' m c']) (by simp [results, Tryz.results33, go_sem, s0, s1]) rfl ?_
          exact odd_now HD7.out HD6.out.at_.lt HM.out (HR6.out.below HB7.out) (by omega)
        · have HRD : Hid (Rd w6.drew g (p + 390)) := Rd.drew HR6.out
          have HDD : Hid (Dr3 w g w2.heap.size (p + 62) (k + 1 + 1) w6.drew A n c A' m c' d) := HD6.out.below (Below.refl _ _).drew
          obtain ⟨w7, hrun, hown, hb7⟩ := make_run (P := Tryz.prog) Tryz.eC w6.drew 17 (by omega) (by unfold maxLen; omega)
          have hrun2 : Sem.run Tryz.prog (Instr.makeSlice 23 (.int .i64 17) (.int .i64 17)) w6.drew = .ok (.slice (some ⟨w6.heap.size, 0, none⟩) 17 17) w7 := hrun
          have HM := Lib.hid (made17 hown)
          have HB7 := Lib.hid hb7
          have HD7 := Lib.hid (HDD.out.below hb7)
          obtain ⟨k0, k1, q0, q1, ql⟩ := HD7.out.at_
          obtain ⟨vs, hov, hpv, hpn, hxo, hxv⟩ := HD7.out.past
          have HOV := Lib.hid hov
          have HPV := Lib.hid hpv
          have HPN := Lib.hid hpn
          have HXO := Lib.hid hxo
          have HXV := Lib.hid hxv
          have hm9 : m ≤ 8 := by have h1 := HD7.out.len; have h2 := hpv.1; have h3 := hov.len; omega
          have hsz7 : w.heap.size ≤ w7.heap.size := Nat.le_trans (Nat.le_of_lt hgdw) (Nat.le_of_lt ql)
          clear hrun hown hb7 hov hpv hpn hxo hxv
          go_wp2_with fail
          go_region_law (refine st_appW w.heap.size (.slice (some ⟨w6.heap.size, 0, none⟩) 17 17) hsz7 rfl (.tmp 46) (.tmp 48) 24 rfl Tryz.ePs _ m vs rfl HOV.out rfl rfl (by unfold maxLen; omega) (by omega) ?_; intro v8 w8 ho8 hb8 hf8 hl8; obtain ⟨A6, c6, rfl⟩ := ho8.shape; have HST : Hid (KAt w8 w2.heap.size (.slice A n c) (.slice A' m c') ∧ KAt w8 w.heap.size (.slice none 0 0) (.slice none 0 0) ∧ RetDk w g (p + 400) (.returned (.agg #[.slice A n c, .slice A6 (m + 1) c6])) (((w8.setCell ⟨w2.heap.size, 1, none⟩ (.slice A6 (m + 1) c6)).setCell ⟨w.heap.size, 0, none⟩ (.slice A n c)).setCell ⟨w.heap.size, 1, none⟩ (.slice A6 (m + 1) c6))) := (odd_past HD7.out (by omega) HDD.out.at_.lt HM.out HOV.out HPV.out HPN.out HXO.out HXV.out ho8 hb8 hf8 hl8 (HRD.out.below HB7.out) (by omega)); clear ho8 hb8 hf8 hl8 c0 c1 f0 f1 fl k0 k1 q0 q1 ql; obtain ⟨c0, c1, f0, f1, fl⟩ := HST.out.1; obtain ⟨s0, s1, t0, t1, tl⟩ := HST.out.2.1; have hgb : ¬ w2.heap.size = w.heap.size := (by omega); have hgb2 : ¬ w.heap.size = w2.heap.size := (by omega))
          all_goals
            go_wp2_with fail
            refine bodyPost_ret (v := .agg #[.slice A n c, .slice A6 (m + 1) c6]) (by simp [results, Tryz.results33, go_sem, s0, s1]) rfl ?_
            exact HST.out.2.2
        · go_wp2_with (at_make; refine wl_make (w0 := w6) rfl (.const (.int .i64 9)) (.const (.int .i64 9)) 24 rfl Tryz.ePs .i64 .i64 9 _ _ rfl rfl rfl rfl (by omega) (by unfold maxLen; omega) (Below.refl _ _) ?_; intro w7 hown hb7 _; have HM := Lib.hid hown; have HB7 := Lib.hid hb7; have HD7 := Lib.hid (HD6.out.below hb7); clear hown hb7 c0 c1 f0 f1 fl; obtain ⟨c0, c1, f0, f1, fl⟩ := HD7.out.at_; obtain ⟨s0, s1, t0, t1, tl⟩ := HD7.out.res; have hgb : ¬ w2.heap.size = w.heap.size := (by omega); have hgb2 : ¬ w.heap.size = w2.heap.size := (by omega))
          refine bodyPost_ret (v := .agg #[.slice A n c, .slice (some ⟨w6.heap.size, 0, none⟩) 9 9]) (by simp [results, Tryz.results33, go_sem, s0, s1]) rfl ?_
          exact odd_all HD7.out HD6.out.at_.lt HM.out (HR6.out.below HB7.out) (by omega)
end Go.Proofs.YtnomlkkhkacajaaGreatDoor
namespace Go.Proofs.YtnomlkkhkacajaaGreatDoor
open Go.RowKit
open Go.Lib hiding intOf

theorem code8_below {w w' : World} {A : Option Addr} {n : Nat} (h : Code8 w A n) (hb : Below w.heap.size w w') : Code8 w' A n := by
  rcases h with h | ⟨b, o, h1, h2, h3⟩
  · exact .inl h
  · refine .inr ⟨b, o, h1, Nat.lt_of_lt_of_le h2 hb.size, fun k hk => ?_⟩
    obtain ⟨u, h4, h5⟩ := h3 k hk
    exact ⟨u, h4, (hb.cell (p := ⟨b, o + k, none⟩) h2).trans h5⟩
end Go.Proofs.YtnomlkkhkacajaaGreatDoor
namespace Go.Proofs.YtnomlkkhkacajaaGreatDoor
open Go.RowKit
open Go.Lib hiding intOf

theorem doF_same {d : Dk} {a : Dd} (hk : dkB d = true) (hd : (doF d a).2 = false) : (doF d a).1 = d := by
  cases hu : undB d a
  · cases hm : madF d.now a with
    | none => rw [doF_none hk hu hm]
    | some y => rw [doF_some hk hu hm] at hd; cases hd
  · rw [doF_undo hk hu] at hd; cases hd
end Go.Proofs.YtnomlkkhkacajaaGreatDoor
