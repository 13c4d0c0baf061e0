/- Texts on the way to a law (E10, H4, E11), each with its own remark. -/
import Derived.Test.YtnomlkkhkacajaaGreatDoorPC26
import Derived.Test.YtnomlkkhkacajaaGreatDoorPC27
import Derived.Test.YtnomlkkhkacajaaGreatDoorPC24
import Derived.Test.YtnomlkkhkacajaaGreatDoorPC18
import Derived.Test.YtnomlkkhkacajaaGreatDoorPC12
import Derived.MapKept
namespace Go.Proofs.YtnomlkkhkacajaaGreatDoor
open Go.RowKit
open Go.Lib hiding intOf

/-- Whether a deed puts the signal of before back. -/
def undB (d : Dk) (a : Dd) : Bool := decide (a.kind = 6) && decide (a.num = 0) && decide (a.text = []) && decide (d.past ≠ [])
/-- A desk after a deed, and whether it was done. -/
def doF (d : Dk) (a : Dd) : Dk × Bool :=
  if dkB d then (if undB d a then (⟨(d.past.getLast?).getD [], d.past.take (d.past.length - 1)⟩, true)
    else match madF d.now a with
      | none => (d, false)
      | some y => (⟨y, (d.past ++ [d.now]).drop (d.past.length - 7)⟩, true))
  else (dk0, false)
theorem doF_bad {d : Dk} (a : Dd) (h : dkB d = false) : doF d a = (dk0, false) := by unfold doF; rw [h]; rfl
theorem doF_undo {d : Dk} {a : Dd} (h : dkB d = true) (hu : undB d a = true) : doF d a = (⟨(d.past.getLast?).getD [], d.past.take (d.past.length - 1)⟩, true) := by unfold doF; rw [h, hu]; rfl
theorem doF_none {d : Dk} {a : Dd} (h : dkB d = true) (hu : undB d a = false) (hm : madF d.now a = none) : doF d a = (d, false) := by unfold doF; rw [h, hu, hm]; rfl
theorem doF_some {d : Dk} {a : Dd} {y : List C} (h : dkB d = true) (hu : undB d a = false) (hm : madF d.now a = some y) : doF d a = (⟨y, (d.past ++ [d.now]).drop (d.past.length - 7)⟩, true) := by unfold doF; rw [h, hu, hm]; rfl
/-- A desk, and whether what was asked for was done. -/
def RetKB (w : World) (r : Dk × Bool) (e : Ending) (w' : World) : Prop :=
  ∃ A n c A' m c', e = .returned (.tuple #[.agg #[.slice A n c, .slice A' m c'], .bool r.2]) ∧ Sg w' w.heap.size A n c r.1.now ∧ Ps w' w.heap.size A' m r.1.past ∧ (r.1.past.length < 8 → Po w' w.heap.size A' m c' r.1.past) ∧ Below w.heap.size w w'
/-- The blocks at the beginning of a call on a desk and a deed. -/
structure Do3 (w : World) (A : Option Addr) (n c : Nat) (A' : Option Addr) (m c' : Nat) (k i : Int) (t : Txt) (wx : World) : Prop where
  desk : KAt wx w.heap.size (.slice A n c) (.slice A' m c')
  deed : DAt wx (w.heap.size + 1) k i (bs t)
  res : KAt wx (w.heap.size + 1 + 1) (.slice none 0 0) (.slice none 0 0)
  below : Below w.heap.size w wx
  size : w.heap.size + 1 + 1 < wx.heap.size
theorem Do3.of (w : World) (A : Option Addr) (n c : Nat) (A' : Option Addr) (m c' : Nat) (k i : Int) (t : Txt) (E F G : TypeId) :
    Do3 w A n c A' m c' k i t (((w.alloc (.cells #[.slice A n c, .slice A' m c'] E)).alloc (.cells #[.int .i64 k, .int .i64 i, .string (bs t)] F)).alloc (.cells #[.slice none 0 0, .slice none 0 0] G)) := by
  have s1 := size_alloc w (.cells #[.slice A n c, .slice A' m c'] E)
  have s2 := size_alloc (w.alloc (.cells #[.slice A n c, .slice A' m c'] E)) (.cells #[.int .i64 k, .int .i64 i, .string (bs t)] F)
  refine ⟨((KAt.new w _ _ E).below (below_alloc _ _) (by omega)).below (below_alloc _ _) (by omega), ?_, ?_, ?_, ?_⟩
  · have h := DAt.new (w.alloc (.cells #[.slice A n c, .slice A' m c'] E)) k i (bs t) F
    rw [s1] at h
    exact h.below (below_alloc _ _)
  · have h := KAt.new ((w.alloc (.cells #[.slice A n c, .slice A' m c'] E)).alloc (.cells #[.int .i64 k, .int .i64 i, .string (bs t)] F)) (.slice none 0 0) (.slice none 0 0) G
    rwa [s2, s1] at h
  · exact (below_alloc w _).trans ((below2 _ _ _).mono (by omega))
  · rw [size_alloc]; omega
theorem Do3.call {w wx w' : World} {A A' : Option Addr} {n c m c' : Nat} {k i : Int} {t : Txt} (h : Do3 w A n c A' m c' k i t wx) (hb : Below wx.heap.size wx w') : Do3 w A n c A' m c' k i t w' :=
  ⟨h.desk.below hb h.desk.lt, h.deed.below hb, h.res.below hb h.res.lt, h.below.trans (hb.mono h.below.size), Nat.lt_of_lt_of_le h.size hb.size⟩

theorem Do3.belowB {w wx w' : World} {A A' : Option Addr} {n c m c' B : Nat} {k i : Int} {t : Txt} (h : Do3 w A n c A' m c' k i t wx) (hb : Below B wx w') (hB : w.heap.size + 1 + 1 < B) : Do3 w A n c A' m c' k i t w' :=
  ⟨h.desk.below hb (by omega), h.deed.belowB hb (by omega), h.res.below hb hB, h.below.trans (hb.mono (by omega)), Nat.lt_of_lt_of_le h.size hb.size⟩
/-- All blocks but some are as they were. -/
structure Kx (X : Nat → Prop) (w w' : World) : Prop where
  size : w.heap.size ≤ w'.heap.size
  block : ∀ b, b < w.heap.size → ¬ X b → w'.heap[b]? = w.heap[b]?
theorem Kx.of {X : Nat → Prop} {w w' : World} (h : Below w.heap.size w w') : Kx X w w' := ⟨h.size, fun b hb _ => h.block b hb⟩
theorem Kx.trans {X : Nat → Prop} {a b c : World} (h : Kx X a b) (k : Kx X b c) : Kx X a c := ⟨Nat.le_trans h.size k.size, fun i hi hx => (k.block i (Nat.lt_of_lt_of_le hi h.size) hx).trans (h.block i hi hx)⟩
theorem size_set (w : World) (p : Addr) (v : Value) : (w.setCell p v).heap.size = w.heap.size := by simp [World.setCell]
theorem Kx.set {X : Nat → Prop} (w : World) {p : Addr} (hp : X p.block) (v : Value) : Kx X w (w.setCell p v) :=
  ⟨by rw [size_set]; exact Nat.le_refl _, fun b _ hx => Below.heap_setCell w p v b fun e => hx (e ▸ hp)⟩
/-- A list of signals that the call owns and that lies in none of some blocks. -/
def Pf (w : World) (B : Nat) (X : Nat → Prop) (A : Option Addr) (m c : Nat) (ps : List (List C)) : Prop :=
  ∃ vs, Ow w B 23 (.slice A m c) m vs ∧ Pv w B vs ps ∧ Pn (.slice A m c) vs ∧ (∀ ad, A = some ad → ¬ X ad.block) ∧ ∀ ad n c, Value.slice (some ad) n c ∈ vs → ¬ X ad.block
theorem Pf.kx {w w' : World} {B : Nat} {X : Nat → Prop} {A : Option Addr} {m c : Nat} {ps : List (List C)} (h : Pf w B X A m c ps) (hk : Kx X w w') : Pf w' B X A m c ps := by
  obtain ⟨vs, h1, h2, h3, h4, h5⟩ := h
  refine ⟨vs, ⟨h1.1, ?_⟩, h2.keep hk.size fun ad n c hm hb => hk.block ad.block hb (h5 ad n c hm), h3, h4, h5⟩
  rcases h1.2 with h0 | ⟨g, cap, cur, hv, hg, hh, r⟩
  · exact .inl h0
  · refine .inr ⟨g, cap, cur, hv, hg, ?_, r⟩
    injection hv with e1 e2 e3
    rw [hk.block g (Array.getElem?_eq_some_iff.1 hh).1 (h4 _ e1)]
    exact hh
theorem Pf.po {w : World} {B : Nat} {X : Nat → Prop} {A : Option Addr} {m c : Nat} {ps : List (List C)} (h : Pf w B X A m c ps) : Po w B A m c ps := by
  obtain ⟨vs, h1, h2, h3, _⟩ := h
  exact ⟨vs, h1, h2, h3⟩
theorem Pf.some {w : World} {B : Nat} {X : Nat → Prop} {A : Option Addr} {m c : Nat} {ps : List (List C)} (h : Pf w B X A (m + 1) c ps) : ∃ g, A = some ⟨g, 0, none⟩ ∧ m + 1 ≤ c ∧ c ≤ maxLen := by
  obtain ⟨vs, h1, _⟩ := h
  rcases h1.2 with ⟨_, h0⟩ | ⟨g, cap, cur, hv, hg, hh, hn, hc, _⟩
  · omega
  · injection hv with e1 e2 e3
    exact ⟨g, e1, by omega, by omega⟩
/-- The list without its first one. -/
theorem Po.tail {w : World} {B g m c : Nat} {ps : List (List C)} (h : Po w B (some ⟨g, 0, none⟩) (m + 1) c ps) : Ps w B (some ⟨g, 1, none⟩) m (ps.drop 1) := by
  obtain ⟨vs, h1, h2, h3⟩ := h
  have hsl := h1.sl
  refine ⟨vs.drop 1, ⟨by rw [List.length_drop, h1.len]; omega, ?_⟩, h2.drop 1, fun ad e => ?_⟩
  · by_cases hm : m = 0
    · exact .inl hm
    · obtain ⟨b, o, e, hb, hc⟩ := hsl.at_ (k := 0) (by omega)
      injection e with e
      injection e with e1 e2
      subst e1; subst e2
      refine .inr ⟨g, 1, rfl, hb, fun j u hj => ?_⟩
      rw [List.getElem?_drop] at hj
      have := hc (1 + j) u hj
      rwa [Nat.zero_add] at this
  · injection e with e
    subst e
    exact h1.ge ⟨g, 0, none⟩ rfl
/-- The signal of before is laid behind those of before. -/
theorem do_step {w1 w2 w4 w6 : World} {r n c2 m c3 c6 m5 c5 : Nat} {A2 A3 A6 A5 : Option Addr} {vs : List Value} {ps : List (List C)} {x y : List C} (hr : r < w1.heap.size) (hs : Sg w2 w1.heap.size A2 n c2 x)
    (hov : Ow w2 w1.heap.size 23 (.slice A3 m c3) m vs) (hpv : Pv w2 w1.heap.size vs ps) (hpn : Pn (.slice A3 m c3) vs) (hne : ∀ ad ad', A2 = some ad → A3 = some ad' → ad.block ≠ ad'.block)
    (hb4 : Below w2.heap.size w2 w4) (hg4 : w2.heap.size < w4.heap.size) (hy : Sg w4 (w2.heap.size + 1) A5 m5 c5 y)
    (ho6 : Ow w6 w1.heap.size 23 (.slice A6 (m + 1) c6) (m + 1) (vs ++ [.slice A2 n c2])) (hs6 : w4.heap.size ≤ w6.heap.size)
    (hf6 : ∀ b, b < w4.heap.size → (Value.slice A3 m c3).ownBlock ≠ some b → w6.heap[b]? = w4.heap[b]?) (hl6 : ∀ b, b < w4.heap.size → (Value.slice A3 m c3).ownBlock ≠ some b → (Value.slice A6 (m + 1) c6).ownBlock ≠ some b) :
    Pf w6 w1.heap.size (fun b => b = w2.heap.size ∨ b = r) A6 (m + 1) c6 (ps ++ [x]) ∧ w6.heap[w2.heap.size]? = w4.heap[w2.heap.size]? ∧ Sg w6 (w2.heap.size + 1) A5 m5 c5 y := by
  have hlt3 : ∀ ad, A3 = some ad → w1.heap.size ≤ ad.block ∧ ad.block < w2.heap.size := hov.ge
  have hown : ∀ b, w2.heap.size ≤ b → (Value.slice A3 m c3).ownBlock ≠ some b := fun b hb e => by
    cases A3 with
    | none => cases e
    | some a =>
      injection e with e
      have := (hlt3 a rfl).2
      omega
  have hpv4 := hpv.below hb4
  have hs4 := hs.below hb4
  have hxn : ∀ ad, A2 = some ad → (Value.slice A3 m c3).ownBlock ≠ some ad.block := fun ad e e2 => by
    cases A3 with
    | none => cases e2
    | some a =>
      injection e2 with e2
      exact hne ad a e rfl e2.symm
  refine ⟨⟨_, ho6, Pv.snoc (hpv4.keep hs6 fun ad n c hm hb => hf6 ad.block hb (hpn ad n c hm)) (hs4.keep hs6 fun ad e hb => hf6 ad.block hb (hxn ad e)), fun ad n' c' hm => ?_, fun ad e hx => ?_, fun ad n' c' hm hx => ?_⟩, hf6 _ hg4 (hown _ (Nat.le_refl _)), hy.keep hs6 fun ad e hb => hf6 ad.block hb (hown _ (by have := (hy.ge ad e).1; omega))⟩
  · rcases List.mem_append.1 hm with h | h
    · obtain ⟨z, hz⟩ := hpv4.mem h
      exact hl6 _ (hz.ge ad rfl).2 (hpn ad n' c' h)
    · rw [List.mem_singleton] at h
      injection h with e1 e2 e3
      exact hl6 _ (hs4.ge ad e1.symm).2 (hxn ad e1.symm)
  · have h1 := (ho6.ge ad e).1
    rcases hx with hx | hx
    · refine hl6 w2.heap.size hg4 (hown _ (Nat.le_refl _)) ?_
      rw [e, ← hx]; rfl
    · omega
  · rcases List.mem_append.1 hm with h | h
    · obtain ⟨z, hz⟩ := hpv.mem h
      have := hz.ge ad rfl
      rcases hx with hx | hx <;> omega
    · rw [List.mem_singleton] at h
      injection h with e1 e2 e3
      have := hs.ge ad e1.symm
      rcases hx with hx | hx <;> omega
end Go.Proofs.YtnomlkkhkacajaaGreatDoor
namespace Go.Proofs.YtnomlkkhkacajaaGreatDoor
open Go.RowKit
open Go.Lib hiding intOf

set_option maxHeartbeats 1000000 in
theorem iWay_there (A A' : Option Addr) (n c m c' : Nat) (x : List C) (k i : Int) (t : Txt) (w : World) (hn : n ≤ 1048576) (hx : Cs w A n x) (hg : LvOk x) :
    Calls Tryz.prog 75 #[.agg #[.slice A n c, .slice A' m c'], dv ⟨k, i, t⟩] w (RetO w (transF x)) := by
  have HX : Hid (Cs ((w.alloc (.cells #[.slice A n c, .slice A' m c'] 26)).alloc (.cells #[.int .i64 k, .int .i64 i, .string (bs t)] 28)) A n x) := Sl.below hx (below2 _ _ _)
  have HB : Hid (Below w.heap.size w ((w.alloc (.cells #[.slice A n c, .slice A' m c'] 26)).alloc (.cells #[.int .i64 k, .int .i64 i, .string (bs t)] 28))) := below2 _ _ _
  have HT : Hid (∀ w, Cs w A n x → Calls Tryz.prog 110 #[.slice A n c] w (RetO w (transF x))) := fun w h => iTransform A n c x w hn h fun _ => hg.prod _
  clear hx hg
  unfold dv
  go_enter Tryz.func75, Tryz.ntmps75
  go_wp2_with fail
  refine (HT.out _ HX.out).mono ?_
  rintro e w1 hr
  obtain ⟨A1, m1, c1, rfl, ho, hb⟩ := RetC.trans' hr HB.out
  have HQ : Hid (RetO w (transF x) (.returned (.tuple #[.slice A1 m1 c1, .bool _])) w1) := ⟨A1, m1, c1, rfl, ho, hb⟩
  clear hr ho hb
  go_wp2_with fail
  go_ret2
  exact HQ.out
set_option maxHeartbeats 1000000 in
theorem iWay_back (A A' : Option Addr) (n c m c' : Nat) (x : List C) (k i : Int) (t : Txt) (w : World) (hn : n ≤ 1048576) (hx : Cs w A n x) (hg : LvOk x) :
    Calls Tryz.prog 76 #[.agg #[.slice A n c, .slice A' m c'], dv ⟨k, i, t⟩] w (RetO w (backF x)) := by
  have HX : Hid (Cs ((w.alloc (.cells #[.slice A n c, .slice A' m c'] 26)).alloc (.cells #[.int .i64 k, .int .i64 i, .string (bs t)] 28)) A n x) := Sl.below hx (below2 _ _ _)
  have HB : Hid (Below w.heap.size w ((w.alloc (.cells #[.slice A n c, .slice A' m c'] 26)).alloc (.cells #[.int .i64 k, .int .i64 i, .string (bs t)] 28))) := below2 _ _ _
  have HT : Hid (∀ w, Cs w A n x → Calls Tryz.prog 111 #[.slice A n c] w (RetO w (backF x))) := fun w h => iBack A n c x w hn h fun _ => hg.prod _
  clear hx hg
  unfold dv
  go_enter Tryz.func76, Tryz.ntmps76
  go_wp2_with fail
  refine (HT.out _ HX.out).mono ?_
  rintro e w1 hr
  obtain ⟨A1, m1, c1, rfl, ho, hb⟩ := RetC.trans' hr HB.out
  have HQ : Hid (RetO w (backF x) (.returned (.tuple #[.slice A1 m1 c1, .bool _])) w1) := ⟨A1, m1, c1, rfl, ho, hb⟩
  clear hr ho hb
  go_wp2_with fail
  go_ret2
  exact HQ.out
set_option maxHeartbeats 1000000 in
theorem iWay_shifted (A A' : Option Addr) (n c m c' : Nat) (x : List C) (k i : Int) (t : Txt) (w : World) (hn : n ≤ 1048576) (hx : Cs w A n x) (hg : LvOk x) :
    Calls Tryz.prog 78 #[.agg #[.slice A n c, .slice A' m c'], dv ⟨k, i, t⟩] w (RetO w (shiF x i)) := by
  have HX : Hid (Cs ((w.alloc (.cells #[.slice A n c, .slice A' m c'] 26)).alloc (.cells #[.int .i64 k, .int .i64 i, .string (bs t)] 28)) A n x) := Sl.below hx (below2 _ _ _)
  have HB : Hid (Below w.heap.size w ((w.alloc (.cells #[.slice A n c, .slice A' m c'] 26)).alloc (.cells #[.int .i64 k, .int .i64 i, .string (bs t)] 28))) := below2 _ _ _
  have HT : Hid (∀ w, Cs w A n x → Calls Tryz.prog 113 #[.slice A n c, .int .i64 i] w (RetO w (shiF x i))) := fun w h => iShifted A n c x i w hn h fun _ => hg.small
  clear hx hg
  unfold dv
  go_enter Tryz.func78, Tryz.ntmps78
  go_wp2_with fail
  refine (HT.out _ HX.out).mono ?_
  rintro e w1 hr
  obtain ⟨A1, m1, c1, rfl, ho, hb⟩ := RetC.trans' hr HB.out
  have HQ : Hid (RetO w (shiF x i) (.returned (.tuple #[.slice A1 m1 c1, .bool _])) w1) := ⟨A1, m1, c1, rfl, ho, hb⟩
  clear hr ho hb
  go_wp2_with fail
  go_ret2
  exact HQ.out
set_option maxHeartbeats 1000000 in
theorem iWay_windowed (A A' : Option Addr) (n c m c' : Nat) (x : List C) (k i : Int) (t : Txt) (w : World) (hn : n ≤ 1048576) (hx : Cs w A n x) :
    Calls Tryz.prog 79 #[.agg #[.slice A n c, .slice A' m c'], dv ⟨k, i, t⟩] w (RetO w (winF x i)) := by
  have HX : Hid (Cs ((w.alloc (.cells #[.slice A n c, .slice A' m c'] 26)).alloc (.cells #[.int .i64 k, .int .i64 i, .string (bs t)] 28)) A n x) := Sl.below hx (below2 _ _ _)
  have HB : Hid (Below w.heap.size w ((w.alloc (.cells #[.slice A n c, .slice A' m c'] 26)).alloc (.cells #[.int .i64 k, .int .i64 i, .string (bs t)] 28))) := below2 _ _ _
  have HT : Hid (∀ w, Cs w A n x → Calls Tryz.prog 114 #[.slice A n c, .int .i64 i] w (RetO w (winF x i))) := fun w h => iWindowed A n c x i w hn h
  clear hx
  unfold dv
  go_enter Tryz.func79, Tryz.ntmps79
  go_wp2_with fail
  refine (HT.out _ HX.out).mono ?_
  rintro e w1 hr
  obtain ⟨A1, m1, c1, rfl, ho, hb⟩ := RetC.trans' hr HB.out
  have HQ : Hid (RetO w (winF x i) (.returned (.tuple #[.slice A1 m1 c1, .bool _])) w1) := ⟨A1, m1, c1, rfl, ho, hb⟩
  clear hr ho hb
  go_wp2_with fail
  go_ret2
  exact HQ.out
set_option maxHeartbeats 1000000 in
theorem iWay_written (A A' : Option Addr) (n c m c' : Nat) (k i : Int) (t : Txt) (w : World) (ht : t.length ≤ 1073741824) (hE : EnvA w) :
    Calls Tryz.prog 74 #[.agg #[.slice A n c, .slice A' m c'], dv ⟨k, i, t⟩] w (RetO w ((readSig t).map mils)) := by
  have HB : Hid (Below w.heap.size w ((w.alloc (.cells #[.slice A n c, .slice A' m c'] 26)).alloc (.cells #[.int .i64 k, .int .i64 i, .string (bs t)] 28))) := below2 _ _ _
  have HT : Hid (Calls Tryz.prog 109 #[.string (bs t)] ((w.alloc (.cells #[.slice A n c, .slice A' m c'] 26)).alloc (.cells #[.int .i64 k, .int .i64 i, .string (bs t)] 28)) (RetO ((w.alloc (.cells #[.slice A n c, .slice A' m c'] 26)).alloc (.cells #[.int .i64 k, .int .i64 i, .string (bs t)] 28)) ((readSig t).map mils))) := iReadSignal t ht _ (hE.kp (Kp.below HB.out))
  clear hE
  obtain ⟨r, hr⟩ : ∃ r, r = (readSig t).map mils := ⟨_, rfl⟩
  rw [← hr] at HT ⊢
  clear hr
  unfold dv
  go_enter Tryz.func74, Tryz.ntmps74
  go_wp2_with fail
  refine HT.out.mono ?_
  rintro e w1 hr
  obtain ⟨A1, m1, c1, rfl, ho, hb⟩ := RetC.trans' hr HB.out
  have HQ : Hid (RetO w r (.returned (.tuple #[.slice A1 m1 c1, .bool _])) w1) := ⟨A1, m1, c1, rfl, ho, hb⟩
  clear hr ho hb
  go_wp2_with fail
  go_ret2
  exact HQ.out
set_option maxHeartbeats 1000000 in
theorem iWay_moved (A A' : Option Addr) (n c m c' : Nat) (x : List C) (k i : Int) (t : Txt) (w : World) (hn : n ≤ 1048576) (hx : Cs w A n x) :
    Calls Tryz.prog 77 #[.agg #[.slice A n c, .slice A' m c'], dv ⟨k, i, t⟩] w (RetC w (movF x i) (decide (movF x i ≠ []))) := by
  have HX : Hid (Cs ((w.alloc (.cells #[.slice A n c, .slice A' m c'] 26)).alloc (.cells #[.int .i64 k, .int .i64 i, .string (bs t)] 28)) A n x) := Sl.below hx (below2 _ _ _)
  have HB : Hid (Below w.heap.size w ((w.alloc (.cells #[.slice A n c, .slice A' m c'] 26)).alloc (.cells #[.int .i64 k, .int .i64 i, .string (bs t)] 28))) := below2 _ _ _
  have HT : Hid (∀ w, Cs w A n x → Calls Tryz.prog 112 #[.slice A n c, .int .i64 i] w (RetS w (movF x i))) := fun w h => iMovedF A n c x i w hn h
  clear hx
  unfold dv
  go_enter Tryz.func77, Tryz.ntmps77
  go_wp2_with fail
  refine (HT.out _ HX.out).mono ?_
  rintro e w1 ⟨A1, m1, c1, rfl, ho, hb⟩
  have hl : (movF x i).length = m1 := by have := ho.len; rwa [List.length_map] at this
  have HO := Lib.hid (ho.mono HB.out.size)
  have HB1 : Hid (Below w.heap.size w w1) := HB.out.trans (hb.mono HB.out.size)
  by_cases hm : 0 < m1
  · have HD : Hid (decide (movF x i ≠ []) = true) := decide_eq_true (fun h => by rw [h] at hl; simp at hl; omega)
    clear ho hb hl
    go_wp2_with fail
    go_ret2
    rw [HD.out]
    exact ⟨_, _, _, rfl, HO.out, HB1.out⟩
  · have HD : Hid (decide (movF x i ≠ []) = false) := decide_eq_false (fun h => h (List.length_eq_zero_iff.1 (by omega)))
    obtain rfl : m1 = 0 := by omega
    clear ho hb hl
    go_wp2_with fail
    go_ret2
    rw [HD.out]
    exact ⟨_, _, _, rfl, HO.out, HB1.out⟩
set_option maxHeartbeats 1000000 in
theorem iWay_undone_no (A A' : Option Addr) (n c c' : Nat) (k i : Int) (t : Txt) (w : World) :
    Calls Tryz.prog 80 #[.agg #[.slice A n c, .slice A' 0 c'], dv ⟨k, i, t⟩] w (RetC w [] false) := by
  have HB : Hid (Below w.heap.size w ((w.alloc (.cells #[.slice A n c, .slice A' 0 c'] 26)).alloc (.cells #[.int .i64 k, .int .i64 i, .string (bs t)] 28))) := below2 _ _ _
  unfold dv
  go_enter Tryz.func80, Tryz.ntmps80
  go_wp2_with fail
  go_ret2
  exact RetC.nil_ HB.out
set_option maxHeartbeats 1000000 in
theorem iWay_undone (A A' : Option Addr) (n c p c' : Nat) (ps : List (List C)) (x : List C) (k i : Int) (t : Txt) (w : World) (hp : p < 1048576) (hps : Ps w 0 A' (p + 1) ps) (hx : ps[p]? = some x) (hl : x.length ≤ 17) :
    Calls Tryz.prog 80 #[.agg #[.slice A n c, .slice A' (p + 1) c'], dv ⟨k, i, t⟩] w (RetC w x true) := by
  obtain ⟨m, hm⟩ : ∃ m, m = p + 1 := ⟨_, rfl⟩
  obtain ⟨b, o, y, A4, n4, c4, rfl, hbl, hy, hc, hcs⟩ := hps.at_ (k := p) (by omega)
  obtain rfl : y = x := by rw [hx] at hy; exact (Option.some.inj hy).symm
  have hn4 : n4 ≤ 17 := by have := hcs.len; omega
  have HB : Hid (Below w.heap.size w ((w.alloc (.cells #[.slice A n c, .slice (some ⟨b, o, none⟩) m c'] 26)).alloc (.cells #[.int .i64 k, .int .i64 i, .string (bs t)] 28))) := below2 _ _ _
  have hck : ((w.alloc (.cells #[.slice A n c, .slice (some ⟨b, o, none⟩) m c'] 26)).alloc (.cells #[.int .i64 k, .int .i64 i, .string (bs t)] 28)).cell? ⟨b, o + p, none⟩ = some (.slice A4 n4 c4) := (HB.out.cell (p := ⟨b, o + p, none⟩) hbl).trans hc
  have HX : Hid (Cs ((w.alloc (.cells #[.slice A n c, .slice (some ⟨b, o, none⟩) m c'] 26)).alloc (.cells #[.int .i64 k, .int .i64 i, .string (bs t)] 28)) A4 n4 y) := Sl.below hcs.cs HB.out
  have HT : Hid (∀ w, Cs w A4 n4 y → Calls Tryz.prog 73 #[.slice A4 n4 c4] w (RetS w y)) := fun w h => iCopyOf A4 n4 c4 y w (by omega) h
  have e9 : IntKind.i64.wrap ((m : Int) - 1) = (p : Int) := by rw [IntWalk.i64_in _ (by omega)]; omega
  have hm0 : ((m : Int) == 0) = false := by rw [beq_eq_false_iff_ne]; omega
  have hpm : (p : Int) < (m : Int) := by omega
  have hpm2 : p < m := by omega
  rw [← hm]
  clear hps hx hy hc hcs hm hl
  unfold dv
  go_enter Tryz.func80, Tryz.ntmps80
  go_wp2_with fail
  refine (HT.out _ HX.out).mono ?_
  rintro e w1 ⟨A1, m1, c1, rfl, ho, hb⟩
  have HQ : Hid (RetC w y true (.returned (.tuple #[.slice A1 m1 c1, .bool true])) w1) := ⟨A1, m1, c1, rfl, ho.mono HB.out.size, HB.out.trans (hb.mono HB.out.size)⟩
  clear ho hb
  go_wp2_with fail
  go_ret2
  exact HQ.out

/-- An entry more in a map. -/
theorem up_run {P : Program} {w : World} {mty kt et : TypeId} {r clock B : Nat} {es : Array MapEntry} (s : ByteArray) (val : Value) (hm : P.underlying mty = some (.map kt et)) (hk : P.underlying kt = some .string) (hb : w.heap[r]? = some (.map es clock)) (hf : Instr.findNow .string (.string s) es.toList 0 = some none) (hB : B ≤ r) :
    ∃ w', (Instr.mapUpdate mty (.map (some r)) (.string s) val).run P w = .ok () w' ∧ w'.heap[r]? = some (.map (es.push { key := .string s, val := val, born := clock }) (clock + 1)) ∧ Below B w w' := by
  have hc : (Instr.checkKey false 10000 kt (.string s)).run P w = .ok () w := MapKept.run_checkKey (k := .string s) hk (by simp [MapKept.IsKey]) false 9999
  have hlt : r < w.heap.size := (Array.getElem?_eq_some_iff.1 hb).1
  refine ⟨{ w with heap := w.heap.setIfInBounds r (.map (es.push { key := .string s, val := val, born := clock }) (clock + 1)) }, ?_, ?_, ?_⟩
  · simp [Instr.mapUpdate, run_underlying hm, MapKept.run_getObj_map hb, hc, MapKept.run_findKey hk hf, MapKept.run_setObj_map _ hb, Result.andThen]
  · show (w.heap.setIfInBounds r _)[r]? = _
    rw [Array.getElem?_setIfInBounds_self_of_lt hlt]
  · exact ⟨rfl, rfl, rfl, by simp, fun k hk => by
      show (w.heap.setIfInBounds r _)[k]? = _
      rw [Array.getElem?_setIfInBounds_ne (by omega)]⟩
theorem lk_run {P : Program} {w : World} {mty kt et : TypeId} {r clock i : Nat} {es : Array MapEntry} {s : ByteArray} {v : Value} (hm : P.underlying mty = some (.map kt et)) (hk : P.underlying kt = some .string) (hb : w.heap[r]? = some (.map es clock)) (hf : Instr.findNow .string (.string s) es.toList 0 = some (some (i, v))) :
    (Instr.lookup mty (.map (some r)) (.string s) false).run P w = .ok v w := by
  have hc : (Instr.checkKey es.isEmpty 10000 kt (.string s)).run P w = .ok () w := MapKept.run_checkKey (k := .string s) hk (by simp [MapKept.IsKey]) es.isEmpty 9999
  simp [Instr.lookup, run_underlying hm, MapKept.run_getObj_map hb, hc, MapKept.run_findKey hk hf, Result.andThen]
/-- The entries of the map of ways. -/
def waysL : List MapEntry :=
  [⟨.string ⟨#[119, 114, 105, 116, 101]⟩, .func (.func 74) #[] #[], 0⟩,
   ⟨.string ⟨#[116, 104, 101, 114, 101]⟩, .func (.func 75) #[] #[], 1⟩,
   ⟨.string ⟨#[98, 97, 99, 107]⟩, .func (.func 76) #[] #[], 2⟩,
   ⟨.string ⟨#[109, 111, 118, 101]⟩, .func (.func 77) #[] #[], 3⟩,
   ⟨.string ⟨#[115, 104, 105, 102, 116]⟩, .func (.func 78) #[] #[], 4⟩,
   ⟨.string ⟨#[119, 105, 110, 100, 111, 119]⟩, .func (.func 79) #[] #[], 5⟩,
   ⟨.string ⟨#[117, 110, 100, 111]⟩, .func (.func 80) #[] #[], 6⟩]
set_option maxHeartbeats 1000000 in
set_option maxRecDepth 100000 in
theorem iWays (w : World) : Calls Tryz.prog 37 #[] w fun e w' => ∃ b, e = .returned (.map (some b)) ∧ w'.heap[b]? = some (.map waysL.toArray 7) ∧ Below w.heap.size w w' := by
  have h0 : (w.alloc (.map #[] 0)).heap[w.heap.size]? = some (.map #[] 0) := by show (w.heap.push _)[w.heap.size]? = _; simp
  have hmm := @run_makeMap Tryz.prog
  obtain ⟨w1, r1, h1, b1⟩ := up_run (P := Tryz.prog) (B := w.heap.size) ⟨#[119, 114, 105, 116, 101]⟩ (.func (.func 74) #[] #[]) Tryz.underlying65 Tryz.underlying9 h0 rfl (Nat.le_refl _)
  obtain ⟨w2, r2, h2, b2⟩ := up_run (P := Tryz.prog) (B := w.heap.size) ⟨#[116, 104, 101, 114, 101]⟩ (.func (.func 75) #[] #[]) Tryz.underlying65 Tryz.underlying9 h1 rfl (Nat.le_refl _)
  obtain ⟨w3, r3, h3, b3⟩ := up_run (P := Tryz.prog) (B := w.heap.size) ⟨#[98, 97, 99, 107]⟩ (.func (.func 76) #[] #[]) Tryz.underlying65 Tryz.underlying9 h2 rfl (Nat.le_refl _)
  obtain ⟨w4, r4, h4, b4⟩ := up_run (P := Tryz.prog) (B := w.heap.size) ⟨#[109, 111, 118, 101]⟩ (.func (.func 77) #[] #[]) Tryz.underlying65 Tryz.underlying9 h3 rfl (Nat.le_refl _)
  obtain ⟨w5, r5, h5, b5⟩ := up_run (P := Tryz.prog) (B := w.heap.size) ⟨#[115, 104, 105, 102, 116]⟩ (.func (.func 78) #[] #[]) Tryz.underlying65 Tryz.underlying9 h4 rfl (Nat.le_refl _)
  obtain ⟨w6, r6, h6, b6⟩ := up_run (P := Tryz.prog) (B := w.heap.size) ⟨#[119, 105, 110, 100, 111, 119]⟩ (.func (.func 79) #[] #[]) Tryz.underlying65 Tryz.underlying9 h5 rfl (Nat.le_refl _)
  obtain ⟨w7, r7, h7, b7⟩ := up_run (P := Tryz.prog) (B := w.heap.size) ⟨#[117, 110, 100, 111]⟩ (.func (.func 80) #[] #[]) Tryz.underlying65 Tryz.underlying9 h6 rfl (Nat.le_refl _)
  have HB : Hid (Below w.heap.size w w7) := ((((((((below_alloc w _).trans b1).trans b2).trans b3).trans b4).trans b5).trans b6).trans b7)
  have H7 : Hid (w7.heap[w.heap.size]? = some (.map waysL.toArray 7)) := h7
  clear b1 b2 b3 b4 b5 b6 b7 h0 h1 h2 h3 h4 h5 h6 h7
  go_enter Tryz.func37, Tryz.ntmps37
  go_wp2_with fail
  go_ret
  exact ⟨_, rfl, H7.out, HB.out⟩
end Go.Proofs.YtnomlkkhkacajaaGreatDoor
namespace Go.Proofs.YtnomlkkhkacajaaGreatDoor
open Go.RowKit
open Go.Lib hiding intOf

theorem readSig_l16 {t : Txt} {ps : List Pr} (h : readSig t = some ps) : ps.length ≤ 16 := by
  unfold readSig at h
  split at h
  · cases h; decide
  · split at h
    · cases h
    · split at h
      · cases h; assumption
      · cases h
theorem Lv.mils (ps : List Pr) : Lv (mils ps) 14 := fun i hi => by
  obtain ⟨z, hz⟩ : ∃ z, z = nth (Go.Proofs.YtnomlkkhkacajaaGreatDoor.mils ps) i := ⟨_, rfl⟩
  have hm : nth (Go.Proofs.YtnomlkkhkacajaaGreatDoor.mils ps) i ∈ Go.Proofs.YtnomlkkhkacajaaGreatDoor.mils ps := by rw [nth_eq hi]; exact List.getElem_mem hi
  obtain ⟨p, _, hp⟩ := List.mem_map.1 (show nth (Go.Proofs.YtnomlkkhkacajaaGreatDoor.mils ps) i ∈ ps.map fun p => milli p.1 p.2 from hm)
  rw [← hp]; exact milli_pb _ _
theorem madF_lv {x y : List C} {a : Dd} {a0 : Int} (h : Lv x a0) (hl : x.length ≤ 16) (h1 : 14 ≤ a0) (h2 : a0 ≤ 117) (he : madF x a = some y) : Lv y (a0 + 5) ∧ y.length ≤ 16 := by
  unfold madF at he
  split at he
  · split at he
    · obtain ⟨ps, hps, rfl⟩ := Option.map_eq_some_iff.1 he
      exact ⟨(Lv.mils ps).mono (by omega), by rw [show (mils ps).length = ps.length from List.length_map _]; exact readSig_l16 hps⟩
    · cases he
  split at he
  · split at he
    · cases hs : sizB x
      · rw [transF_no hs] at he; cases he
      · obtain ⟨l, e, hll, hlv⟩ := h.trans (by omega) (by omega) hs
        rw [e] at he; cases he
        exact ⟨hlv, by omega⟩
    · cases he
  split at he
  · split at he
    · cases hs : sizB x
      · rw [backF_no hs] at he; cases he
      · obtain ⟨l, e, hll, hlv⟩ := h.back (by omega) (by omega) hs
        rw [e] at he; cases he
        exact ⟨hlv, by omega⟩
    · cases he
  split at he
  · split at he
    · cases he
      unfold movF
      split
      · exact ⟨(h.mov _).mono (by omega), by unfold movL; rw [rngL_len]; exact hl⟩
      · exact ⟨Lv.nil _, by decide⟩
    · cases he
  split at he
  · split at he
    · obtain ⟨e, hlv⟩ := h.shift (by omega) (by omega) he
      exact ⟨hlv.mono (by omega), by omega⟩
    · cases he
  split at he
  · split at he
    · obtain ⟨e, hlv⟩ := h.win (by omega) (by omega) he
      exact ⟨hlv.mono (by omega), by omega⟩
    · cases he
  · cases he
/-- No number of a desk is too great. -/
def DkL (d : Dk) (a : Int) : Prop := Lv d.now a ∧ ∀ x ∈ d.past, Lv x a
theorem DkL.mono {d : Dk} {a b : Int} (h : DkL d a) (hb : a ≤ b) : DkL d b := ⟨h.1.mono hb, fun x hx => (h.2 x hx).mono hb⟩
theorem sig_of_lv {x : List C} {a : Int} (h : Lv x a) (hl : x.length ≤ 16) : sigB x = true := by unfold sigB; rw [h.fin, decide_eq_true hl]; rfl
theorem DkS.ok {d : Dk} (h : dkB d = true) : DkS d := by
  obtain ⟨h1, h2, h3⟩ := dkB_iff.1 h
  exact ⟨by have := sig_len h1; omega, by omega, fun x hx => by have := sig_len (h3 x hx); omega⟩
theorem DkL.lvok {d : Dk} {a : Int} (h : DkL d a) (h1 : 14 ≤ a) (h2 : a ≤ 117) : LvOk d.now := ⟨a, h.1, by omega, h2⟩
theorem undB_past {d : Dk} {a : Dd} (h : undB d a = true) : d.past ≠ [] := by
  unfold undB at h
  rw [Bool.and_eq_true] at h
  exact of_decide_eq_true h.2
theorem doF_ok {d : Dk} (a : Dd) {a0 : Int} (hk : dkB d = true) (hl : DkL d a0) (h1 : 14 ≤ a0) (h2 : a0 ≤ 117) : dkB (doF d a).1 = true ∧ DkL (doF d a).1 (a0 + 5) ∧ (doF d a).1.past.length ≤ d.past.length + 1 := by
  obtain ⟨k1, k2, k3⟩ := dkB_iff.1 hk
  cases hu : undB d a
  · cases hm : madF d.now a with
    | none => rw [doF_none hk hu hm]; exact ⟨hk, hl.mono (by omega), Nat.le_succ _⟩
    | some y =>
      obtain ⟨l1, l2⟩ := madF_lv hl.1 (sig_len k1) h1 h2 hm
      rw [doF_some hk hu hm]
      have hin : ∀ x ∈ (d.past ++ [d.now]).drop (d.past.length - 7), x ∈ d.past ∨ x = d.now := fun x hx => by
        have := List.mem_of_mem_drop hx
        rw [List.mem_append, List.mem_singleton] at this
        exact this
      refine ⟨dkB_iff.2 ⟨sig_of_lv l1 l2, ?_, fun x hx => ?_⟩, ⟨l1, fun x hx => ?_⟩, ?_⟩
      · rw [List.length_drop, List.length_append, List.length_singleton]; omega
      · rcases hin x hx with h | rfl
        · exact k3 x h
        · exact k1
      · rcases hin x hx with h | rfl
        · exact (hl.2 x h).mono (by omega)
        · exact hl.1.mono (by omega)
      · show ((d.past ++ [d.now]).drop (d.past.length - 7)).length ≤ _
        rw [List.length_drop, List.length_append, List.length_singleton]; omega
  · have hne := undB_past hu
    rw [doF_undo hk hu]
    obtain ⟨z, hz⟩ : ∃ z, d.past.getLast? = some z := ⟨_, List.getLast?_eq_some_getLast hne⟩
    have hzm : z ∈ d.past := List.mem_of_getLast? hz
    rw [hz]
    refine ⟨dkB_iff.2 ⟨k3 z hzm, ?_, fun x hx => k3 x (List.mem_of_mem_take hx)⟩, ⟨(hl.2 z hzm).mono (by omega), fun x hx => (hl.2 x (List.mem_of_mem_take hx)).mono (by omega)⟩, ?_⟩
    · show (d.past.take _).length ≤ 8; rw [List.length_take]; omega
    · show (d.past.take _).length ≤ _; rw [List.length_take]; omega
end Go.Proofs.YtnomlkkhkacajaaGreatDoor
