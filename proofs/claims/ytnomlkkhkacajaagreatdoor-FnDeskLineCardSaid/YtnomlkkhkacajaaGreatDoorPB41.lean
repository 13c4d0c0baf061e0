/- Texts on the way to a law (H10, H11, J9), each with its own remark. -/
import Derived.Test.YtnomlkkhkacajaaGreatDoorPB35
import Derived.Test.YtnomlkkhkacajaaGreatDoorPB28
import Derived.Test.YtnomlkkhkacajaaGreatDoorPB34
import Derived.Test.YtnomlkkhkacajaaGreatDoorPB29
namespace Go.Proofs.YtnomlkkhkacajaaGreatDoor
open Go.RowKit
open Go.Lib hiding intOf

/-- One deed more, and how many were done. -/
def runS (r : Dk × Nat) (a : Dd) : Dk × Nat := if (doF r.1 a).2 then ((doF r.1 a).1, r.2 + 1) else r
def runG (r : Dk × Nat) (ds : List Dd) : Dk × Nat := ds.foldl runS r
theorem runG_nil (r : Dk × Nat) : runG r [] = r := rfl
theorem runG_app (r : Dk × Nat) (l1 l2 : List Dd) : runG r (l1 ++ l2) = runG (runG r l1) l2 := List.foldl_append
theorem runG_snoc (r : Dk × Nat) (l1 : List Dd) (a : Dd) : runG r (l1 ++ [a]) = runS (runG r l1) a := by rw [runG_app]; rfl
theorem runS_yes {r : Dk × Nat} {a : Dd} (h : (doF r.1 a).2 = true) : runS r a = ((doF r.1 a).1, r.2 + 1) := by unfold runS; rw [if_pos h]
theorem runS_no {r : Dk × Nat} {a : Dd} (h : (doF r.1 a).2 = false) : runS r a = r := by unfold runS; rw [if_neg (by rw [h]; decide)]
theorem runG_take {r : Dk × Nat} {ds : List Dd} {k : Nat} {a : Dd} (h : ds[k]? = some a) : runG r (ds.take (k + 1)) = runS (runG r (ds.take k)) a := by
  rw [List.take_add_one, h]; exact runG_snoc _ _ _
/-- The count is a sum. -/
theorem runG_count (d : Dk) (n : Nat) : ∀ ds : List Dd, runG (d, n) ds = ((runG (d, 0) ds).1, n + (runG (d, 0) ds).2) := fun ds => by
  induction ds generalizing d n with
  | nil => rfl
  | cons a l ih =>
    show runG (runS (d, n) a) l = ((runG (runS (d, 0) a) l).1, n + (runG (runS (d, 0) a) l).2)
    cases h : (doF d a).2
    · rw [runS_no (r := (d, n)) h, runS_no (r := (d, 0)) h, ih d n]
    · rw [runS_yes (r := (d, n)) h, runS_yes (r := (d, 0)) h, ih _ (n + 1), ih _ (0 + 1)]
      simp only [Prod.mk.injEq]
      exact ⟨trivial, by omega⟩
theorem runG_ok {d : Dk} {a0 : Int} (hk : dkB d = true) (hl : DkL d a0) (h1 : 14 ≤ a0) : ∀ (n : Nat) (ds : List Dd), a0 + 5 * (ds.length : Int) ≤ 122 → dkB (runG (d, n) ds).1 = true ∧ DkL (runG (d, n) ds).1 (a0 + 5 * (ds.length : Int)) := fun n ds => by
  induction ds generalizing d a0 n with
  | nil => intro _; exact ⟨hk, hl.mono (by simp)⟩
  | cons a l ih =>
    intro h2
    have h3 : ((a :: l).length : Int) = (l.length : Int) + 1 := by rw [List.length_cons]; omega
    rw [h3] at h2 ⊢
    show dkB (runG (runS (d, n) a) l).1 = true ∧ DkL (runG (runS (d, n) a) l).1 _
    obtain ⟨l1, l2, _⟩ := doF_ok a hk hl h1 (by omega)
    cases h : (doF d a).2
    · rw [runS_no (r := (d, n)) h]
      obtain ⟨q1, q2⟩ := ih hk (hl.mono (show a0 ≤ a0 + 5 by omega)) (by omega) n (by omega)
      exact ⟨q1, q2.mono (by omega)⟩
    · rw [runS_yes (r := (d, n)) h]
      obtain ⟨q1, q2⟩ := ih l1 l2 (by omega) (n + 1) (by omega)
      exact ⟨q1, q2.mono (by omega)⟩
/-- A desk after deeds, and how many were done. -/
def runF (d : Dk) (ds : List Dd) : Dk × Nat := if dkB d && decide (ds.length ≤ 40) then runG (d, 0) ds else (dk0, 0)
theorem runF_no {d : Dk} {ds : List Dd} (h : dkB d = false ∨ 40 < ds.length) : runF d ds = (dk0, 0) := by
  unfold runF
  rcases h with h | h
  · rw [h]; rfl
  · rw [decide_eq_false (by omega), Bool.and_false]; rfl
theorem runF_yes {d : Dk} {ds : List Dd} (h : dkB d = true) (hl : ds.length ≤ 40) : runF d ds = runG (d, 0) ds := by
  unfold runF; rw [h, decide_eq_true hl]; rfl
/-- A list of signals that lies in none of some blocks. -/
def Px (w : World) (B : Nat) (X : Nat → Prop) (A : Option Addr) (m : Nat) (ps : List (List C)) : Prop :=
  ∃ vs, Sl w A m vs ∧ Pv w B vs ps ∧ (∀ ad, A = some ad → B ≤ ad.block ∧ ad.block < w.heap.size) ∧ (∀ ad, A = some ad → ¬ X ad.block) ∧ ∀ ad n c, Value.slice (some ad) n c ∈ vs → ¬ X ad.block
theorem Px.kx {w w' : World} {B : Nat} {X : Nat → Prop} {A : Option Addr} {m : Nat} {ps : List (List C)} (h : Px w B X A m ps) (hk : Kx X w w') : Px w' B X A m ps := by
  obtain ⟨vs, h1, h2, h3, h4, h5⟩ := h
  exact ⟨vs, Sl.kept h1 hk.size fun ad e hl => hk.block ad.block hl (h4 ad e), h2.keep hk.size fun ad n c hm hb => hk.block ad.block hb (h5 ad n c hm), fun ad e => ⟨(h3 ad e).1, Nat.lt_of_lt_of_le (h3 ad e).2 hk.size⟩, h4, h5⟩
theorem Px.ps {w : World} {B : Nat} {X : Nat → Prop} {A : Option Addr} {m : Nat} {ps : List (List C)} (h : Px w B X A m ps) : Ps w B A m ps := by
  obtain ⟨vs, h1, h2, h3, _⟩ := h
  exact ⟨vs, h1, h2, h3⟩
theorem Ps.px {w : World} {B : Nat} {X : Nat → Prop} {A : Option Addr} {m : Nat} {ps : List (List C)} (h : Ps w B A m ps) (hX : ∀ b, B ≤ b → b < w.heap.size → ¬ X b) : Px w B X A m ps := by
  obtain ⟨vs, h1, h2, h3⟩ := h
  exact ⟨vs, h1, h2, h3, fun ad e => hX _ (h3 ad e).1 (h3 ad e).2, fun ad n c hm => by
    obtain ⟨z, hz⟩ := h2.mem hm
    exact hX _ (hz.ge ad rfl).1 (hz.ge ad rfl).2⟩
theorem Px.mono {w : World} {B B' : Nat} {X : Nat → Prop} {A : Option Addr} {m : Nat} {ps : List (List C)} (h : Px w B X A m ps) (hB : B' ≤ B) : Px w B' X A m ps := by
  obtain ⟨vs, h1, h2, h3, h4, h5⟩ := h
  exact ⟨vs, h1, h2.mono hB, fun ad e => ⟨Nat.le_trans hB (h3 ad e).1, (h3 ad e).2⟩, h4, h5⟩
/-- A desk that lies in none of some blocks. -/
structure DkX (w : World) (B : Nat) (X : Nat → Prop) (A : Option Addr) (n c : Nat) (A' : Option Addr) (m : Nat) (d : Dk) : Prop where
  now : Sf w B X A n c d.now
  past : Px w B X A' m d.past
theorem DkX.kx {w w' : World} {B : Nat} {X : Nat → Prop} {A A' : Option Addr} {n c m : Nat} {d : Dk} (h : DkX w B X A n c A' m d) (hk : Kx X w w') : DkX w' B X A n c A' m d := ⟨h.now.kx hk, h.past.kx hk⟩
theorem DkX.dkv {w : World} {B : Nat} {X : Nat → Prop} {A A' : Option Addr} {n c m : Nat} {d : Dk} (h : DkX w B X A n c A' m d) : DkV w B A n c A' m d := ⟨h.now.sg, h.past.ps⟩
theorem DkV.dkx {w : World} {B : Nat} {X : Nat → Prop} {A A' : Option Addr} {n c m : Nat} {d : Dk} (h : DkV w B A n c A' m d) (hX : ∀ b, B ≤ b → b < w.heap.size → ¬ X b) : DkX w B X A n c A' m d := ⟨h.now.sf hX, h.past.px hX⟩
theorem DkX.mono {w : World} {B B' : Nat} {X : Nat → Prop} {A A' : Option Addr} {n c m : Nat} {d : Dk} (h : DkX w B X A n c A' m d) (hB : B' ≤ B) : DkX w B' X A n c A' m d := ⟨h.now.mono hB, h.past.mono hB⟩
/-- A desk that is being changed, in its own block; the result's block. -/
structure RunI (w : World) (gb : Nat) (wr : World) (A : Option Addr) (n c : Nat) (A' : Option Addr) (m c' : Nat) (d : Dk) : Prop where
  at_ : KAt wr gb (.slice A n c) (.slice A' m c')
  res : KAt wr (w.heap.size + 1) (.slice none 0 0) (.slice none 0 0)
  dk : DkX wr w.heap.size (fun b => b = gb ∨ b = w.heap.size + 1) A n c A' m d
  below : Below w.heap.size w wr
  gt : w.heap.size + 1 < gb
theorem RunI.step {w wr w' : World} {gb : Nat} {A A' : Option Addr} {n c m c' : Nat} {d : Dk} (h : RunI w gb wr A n c A' m c' d) (hb : Below wr.heap.size wr w') : RunI w gb w' A n c A' m c' d :=
  ⟨h.at_.below hb h.at_.lt, h.res.below hb h.res.lt, h.dk.kx (Kx.of hb), h.below.trans (hb.mono h.below.size), h.gt⟩
theorem RunI.new {w wr w7 : World} {gb : Nat} {A A' A6 A7 : Option Addr} {n c m c' n6 c6 m7 c7 : Nat} {d y : Dk} (h : RunI w gb wr A n c A' m c' d) (hb : Below wr.heap.size wr w7) (hn : DkV w7 wr.heap.size A6 n6 c6 A7 m7 y) :
    RunI w gb ((w7.setCell ⟨gb, 0, none⟩ (.slice A6 n6 c6)).setCell ⟨gb, 1, none⟩ (.slice A7 m7 c7)) A6 n6 c6 A7 m7 c7 y := by
  have h7 := h.step hb
  have hgt := h.gt
  have hlt := h.at_.lt
  have hpk : Pk gb w7 ((w7.setCell ⟨gb, 0, none⟩ (.slice A6 n6 c6)).setCell ⟨gb, 1, none⟩ (.slice A7 m7 c7)) := ((Pk.refl gb _).setCell 0 _).setCell 1 _
  have hX : ∀ b, wr.heap.size ≤ b → b < w7.heap.size → ¬ (b = gb ∨ b = w.heap.size + 1) := fun b h1 h2 hx => by rcases hx with hx | hx <;> omega
  have hk : Kx (fun b => b = gb ∨ b = w.heap.size + 1) w7 ((w7.setCell ⟨gb, 0, none⟩ (.slice A6 n6 c6)).setCell ⟨gb, 1, none⟩ (.slice A7 m7 c7)) := Kx.pk hpk (.inl rfl)
  exact ⟨(h7.at_.set0 _).set1 _, h7.res.pk hpk (by omega), ((hn.dkx hX).kx hk).mono h.below.size, (h7.below.setCell (p := ⟨gb, 0, none⟩) (by show w.heap.size ≤ gb; omega) _).setCell (p := ⟨gb, 1, none⟩) (by show w.heap.size ≤ gb; omega) _, h.gt⟩
/-- A desk, and a number. -/
def RetKN (w : World) (r : Dk × Nat) (e : Ending) (w' : World) : Prop :=
  ∃ A n c A' m c', e = .returned (.tuple #[.agg #[.slice A n c, .slice A' m c'], .int .i64 r.2]) ∧ DkV w' w.heap.size A n c A' m r.1 ∧ Below w.heap.size w w'
theorem RunI.ret {w wr : World} {gb : Nat} {A A' : Option Addr} {n c m c' : Nat} {d : Dk} {q : Nat} (h : RunI w gb wr A n c A' m c' d) :
    RetKN w (d, q) (.returned (.tuple #[.agg #[.slice A n c, .slice A' m c'], .int .i64 q])) ((wr.setCell ⟨w.heap.size + 1, 0, none⟩ (.slice A n c)).setCell ⟨w.heap.size + 1, 1, none⟩ (.slice A' m c')) := by
  have hk : Kx (fun b => b = gb ∨ b = w.heap.size + 1) wr ((wr.setCell ⟨w.heap.size + 1, 0, none⟩ (.slice A n c)).setCell ⟨w.heap.size + 1, 1, none⟩ (.slice A' m c')) := (Kx.set wr (p := ⟨w.heap.size + 1, 0, none⟩) (.inr rfl) _).trans (Kx.set _ (p := ⟨w.heap.size + 1, 1, none⟩) (.inr rfl) _)
  exact ⟨_, _, _, _, _, _, rfl, (h.dk.kx hk).dkv, (h.below.setCell (p := ⟨w.heap.size + 1, 0, none⟩) (by show w.heap.size ≤ w.heap.size + 1; omega) _).setCell (p := ⟨w.heap.size + 1, 1, none⟩) (by show w.heap.size ≤ w.heap.size + 1; omega) _⟩
end Go.Proofs.YtnomlkkhkacajaaGreatDoor
namespace Go.Proofs.YtnomlkkhkacajaaGreatDoor
open Go.RowKit
open Go.Lib hiding intOf

theorem below_da {w w' : World} {o : Obj} (h : Below (w.alloc o).drew.heap.size (w.alloc o).drew w') : Below w.heap.size w w' :=
  (below_alloc w o).drew.trans (h.mono (below_alloc w o).size)

set_option maxHeartbeats 4000000 in
set_option maxRecDepth 100000 in
theorem iDeskRun (A A' : Option Addr) (n c m c' : Nat) (d : Dk) (L : Option Addr) (l lc : Nat) (ds : List Dd) (w : World) (hd : DkV w 0 A n c A' m d) (hz : DkS d) (hds : Ds w L l ds) (hl : l ≤ 1048576) (ht : ∀ a ∈ ds, a.text.length ≤ 1073741824)
    (hg : dkB d = true → ds.length ≤ 40 → ∃ a0, DkL d a0 ∧ 14 ≤ a0 ∧ a0 + 5 * (ds.length : Int) ≤ 122) (hE : EnvA w) :
    Calls Tryz.prog 15 #[.agg #[.slice A n c, .slice A' m c'], .slice L l lc] w (RetKN w (runF d ds)) := by
  have hdl := hds.1
  obtain ⟨w0, hw0⟩ : ∃ w0, w0 = (w.alloc (.cells #[.slice A n c, .slice A' m c'] 26)).alloc (.cells #[.slice none 0 0, .slice none 0 0] 26) := ⟨_, rfl⟩
  have HB0 : Hid (Below w.heap.size w w0) := by rw [hw0]; exact below2 _ _ _
  have HK0 : Hid (KAt w0 w.heap.size (.slice A n c) (.slice A' m c')) := by rw [hw0]; exact (KAt.new w _ _ _).below (below_alloc _ _) (by rw [size_alloc]; omega)
  have HR0 : Hid (KAt w0 (w.heap.size + 1) (.slice none 0 0) (.slice none 0 0)) := by
    have h := KAt.new (w.alloc (.cells #[.slice A n c, .slice A' m c'] 26)) (.slice none 0 0) (.slice none 0 0) 26
    rw [size_alloc] at h
    rw [hw0]; exact h
  have HV0 : Hid (DkV w0 0 A n c A' m d) := hd.below HB0.out
  have HOK : Hid (∀ w, DkV w 0 A n c A' m d → Calls Tryz.prog 12 #[.agg #[.slice A n c, .slice A' m c']] w fun e w' => e = .returned (.bool (dkB d)) ∧ Below w.heap.size w w') := fun w h => iDeskOk A A' n c m c' d w h hz
  have HCP : Hid (∀ w, DkV w 0 A n c A' m d → Calls Tryz.prog 35 #[.agg #[.slice A n c, .slice A' m c']] w (RetK w d)) := fun w h => iCopied A A' n c m c' d w h hz
  obtain ⟨k0, k1, l0, l1, l2⟩ := HK0.out
  by_cases hno : dkB d = false ∨ 40 < ds.length
  · have HF := Lib.hid (runF_no hno)
    have key : dkB d = false ∨ (dkB d = true ∧ (40 : Int) < (l : Int)) := by
      cases hb : dkB d
      · exact .inl rfl
      · rcases hno with h | h
        · rw [h] at hb; cases hb
        · exact .inr ⟨rfl, by omega⟩
    clear hd hz hds hg ht hno hdl
    rcases key with hb | ⟨hb, h40⟩
    all_goals
      rw [hb] at HOK
      clear hb
      go_enter Tryz.func15, Tryz.ntmps15
      go_wp2_with fail
      rw [← hw0]
      clear hw0
      refine (HOK.out _ HV0.out).mono ?_
      rintro e w1 ⟨rfl, hb1⟩
      have HB1 : Hid (Below w.heap.size w w1) := HB0.out.trans (hb1.mono HB0.out.size)
      obtain ⟨r0, r1, s0, s1, s2⟩ := HR0.out.below hb1 HR0.out.lt
      clear hb1 k0 k1 l0 l1 l2
      go_wp2_with fail
      refine bodyPost_ret (v := .tuple #[.agg #[.slice none 0 0, .slice none 0 0], .int .i64 0]) (by simp [results, Tryz.results15, go_sem, r0, r1]) rfl ?_
      rw [HF.out]
      exact ⟨_, _, _, _, _, _, rfl, DkV.zero _ _, (HB1.out.setCell (p := ⟨w.heap.size + 1, 0, none⟩) (by show w.heap.size ≤ w.heap.size + 1; omega) _).setCell (p := ⟨w.heap.size + 1, 1, none⟩) (by show w.heap.size ≤ w.heap.size + 1; omega) _⟩
  have hb : dkB d = true := eq_true_of_ne_false fun h => hno (.inl h)
  have h40 : ds.length ≤ 40 := Nat.le_of_not_lt fun h => hno (.inr h)
  have h40i : ¬ (40 : Int) < (l : Int) := by omega
  obtain ⟨a0, ha1, ha2, ha3⟩ := hg hb h40
  have HF := Lib.hid (runF_yes hb h40)
  have HG : Hid (∀ k, k < l → dkB (runG (d, 0) (ds.take k)).1 = true ∧ LvOk (runG (d, 0) (ds.take k)).1.now) := fun k hk => by
    have hlt : ((ds.take k).length : Int) ≤ (k : Int) := by rw [List.length_take]; omega
    obtain ⟨q1, q2⟩ := runG_ok hb ha1 ha2 0 (ds.take k) (by omega)
    exact ⟨q1, (q2.mono (show a0 + 5 * ((ds.take k).length : Int) ≤ a0 + 5 * (k : Int) by omega)).lvok (by omega) (by omega)⟩
  have HDO : Hid (∀ (k : Nat) (x : Dk) (q : Nat) (a : Dd) (w' : World) (A n c A' m c'), k < l → runG (d, 0) (ds.take k) = (x, q) → ds[k]? = some a → DkV w' 0 A n c A' m x → EnvA w' → Calls Tryz.prog 9 #[.agg #[.slice A n c, .slice A' m c'], dv a] w' (RetKB w' (doF x a))) := fun k x q a w' A n c A' m c' hk hx ha h he => by
    obtain ⟨q1, q2⟩ := HG.out k hk
    rw [hx] at q1 q2
    exact iDeskDo A A' n c m c' x a w' h (DkS.ok q1) (fun _ => q2) (ht a (List.mem_of_getElem? ha)) he
  have HFL : Hid (runG (d, 0) (ds.take l) = runF d ds) := by show _ = _; rw [HF.out, List.take_of_length_le (by omega)]
  have HDS := Lib.hid hds
  have HNL := Lib.hid hd.now.len
  have HPL := Lib.hid hd.past.len
  have HE := Lib.hid hE
  clear hE
  rw [hb] at HOK
  clear hd hz hds hg ht hno hb ha1 ha2 ha3 h40 hdl
  go_enter Tryz.func15, Tryz.ntmps15
  go_wp2_with fail
  rw [← hw0]
  clear hw0
  refine (HOK.out _ HV0.out).mono ?_
  rintro e w1 ⟨rfl, hb1⟩
  have HB1 : Hid (Below w.heap.size w w1) := HB0.out.trans (hb1.mono HB0.out.size)
  have HR1 := Lib.hid (HR0.out.below hb1 HR0.out.lt)
  have HV1 := Lib.hid (HV0.out.below hb1)
  clear k0 k1 l0 l1 l2
  obtain ⟨k0, k1, l0, l1, l2⟩ := HK0.out.below hb1 HK0.out.lt
  clear hb1
  go_wp2_with fail
  refine (HCP.out _ HV1.out).mono ?_
  rintro e w2 ⟨A2, n2, c2, A3, m3, c3, rfl, hs2, hp2, hb2, _⟩
  have hs1 : w.heap.size + 1 < w1.heap.size := HR1.out.lt
  have hs12 : w1.heap.size ≤ w2.heap.size := hb2.size
  have HB2 : Hid (Below w.heap.size w w2) := HB1.out.trans (hb2.mono HB1.out.size)
  obtain ⟨w3, hw3⟩ : ∃ w3, w3 = w2.alloc (.cells #[.slice A2 n2 c2, .slice A3 m3 c3] 26) := ⟨_, rfl⟩
  have HB3 : Hid (Below w2.heap.size w2 w3) := by rw [hw3]; exact below_alloc _ _
  have HI3 : Hid (RunI w w2.heap.size w3 A2 n2 c2 A3 m3 c3 d) := by
    have h1 : KAt w3 w2.heap.size (.slice A2 n2 c2) (.slice A3 m3 c3) := by rw [hw3]; exact KAt.new w2 _ _ _
    have h2 : DkV w2 w1.heap.size A2 n2 c2 A3 m3 d := ⟨hs2, hp2.ps⟩
    exact ⟨h1, (HR1.out.below hb2 HR1.out.lt).below HB3.out (by omega), ((h2.dkx (X := fun b => b = w2.heap.size ∨ b = w.heap.size + 1) fun b g1 g2 hx => by rcases hx with hx | hx <;> omega).kx (Kx.of HB3.out)).mono HB1.out.size, HB2.out.trans (HB3.out.mono HB2.out.size), by omega⟩
  clear k0 k1 l0 l1 l2 hs2 hp2 hb2
  obtain ⟨gb, hgb⟩ : ∃ gb, gb = w2.heap.size := ⟨_, rfl⟩
  go_wp2_with fail
  rw [← hw3, ← hgb]
  rw [← hgb] at HI3
  clear hw3 hgb HB3
  go_loopw [7, 25] (fun cnt i wr => ∃ (k q : Nat) (A : Option Addr) (n c : Nat) (A' : Option Addr) (m c' : Nat) (x : Dk), k ≤ l ∧ i = .int .i64 k ∧ cnt = .int .i64 q ∧ q ≤ k ∧ runG (d, 0) (ds.take k) = (x, q) ∧ RunI w gb wr A n c A' m c' x) (fun _ i _ => l - (intOf i).toNat)
  case atStart => first | exact ⟨0, 0, _, _, _, _, _, _, d, by omega, rfl, rfl, by omega, rfl, HI3.out⟩ | ((repeat apply Exists.intro); exact ⟨by omega, rfl, rfl, by omega, rfl, HI3.out⟩)
  case round =>
    obtain ⟨k, q, A4, n4, c4, A5, m5, c5, x, hk, rfl, rfl, hqk, hrun, hi⟩ := hrel
    have HI := Lib.hid hi
    have HRUN := Lib.hid hrun
    clear hrun hi
    by_cases hlt : k < l
    · obtain ⟨b, o, a, rfl, hbl, ha, hc0, hc1, hc2⟩ := HDS.out.at_ hlt
      have hck0 := (HI.out.below.cell (p := ⟨b, o + k * 3, none⟩) hbl).trans hc0
      have hck1 := (HI.out.below.cell (p := ⟨b, o + k * 3 + 1, none⟩) hbl).trans hc1
      have hck2 := (HI.out.below.cell (p := ⟨b, o + k * 3 + 2, none⟩) hbl).trans hc2
      have HCK := Lib.hid (And.intro hck0 (And.intro hck1 hck2))
      have hbr : b < wr.heap.size := Nat.lt_of_lt_of_le hbl HI.out.below.size
      have HT : Hid (runG (d, 0) (ds.take (k + 1)) = runS (x, q) a) := by show _ = _; rw [runG_take ha, HRUN.out]
      have KDO := Lib.hid (fun w' h => HDO.out k x q a w' A4 n4 c4 A5 m5 c5 hlt HRUN.out ha h)
      unfold dv at KDO
      have e1 : IntKind.i64.wrap ((q : Int) + 1) = (q : Int) + 1 := IntWalk.i64_in _ (by omega)
      clear ha hc0 hc1 hc2
      obtain ⟨g0, g1, q0, q1, q2⟩ := HI.out.at_
      obtain ⟨wa, hwa⟩ : ∃ wa, wa = wr.alloc (.cells #[.int .i64 a.kind, .int .i64 a.num, .string (bs a.text)] 28) := ⟨_, rfl⟩
      have HBA : Hid (Below wr.heap.size wr wa) := by rw [hwa]; exact below_alloc _ _
      have HIA := Lib.hid (HI.out.step HBA.out)
      go_wp2_with fail
      rw [← hwa]
      clear hwa g0 g1 q0 q1 q2 hck0 hck1 hck2
      refine (KDO.out _ (HIA.out.dk.dkv.mono (Nat.zero_le _)) (HE.out.kp (Kp.below HIA.out.below))).mono ?_
      rintro e w5 ⟨A6, n6, c6, A7, m7, c7, rfl, hs5, hp5, _, hb5⟩
      have HB5 : Hid (Below wr.heap.size wr w5) := HBA.out.trans (hb5.mono HBA.out.size)
      have HN5 : Hid (DkV w5 wr.heap.size A6 n6 c6 A7 m7 (doF x a).1) := (DkV.mk hs5 hp5).mono HBA.out.size
      have HI5 := Lib.hid (HI.out.step HB5.out)
      have hgt7 : ¬ gb = w5.heap.size := by have h1 := HIA.out.at_.lt; have h2 := hb5.size; omega
      have hgt8 : ¬ w5.heap.size = gb := fun h => hgt7 h.symm
      obtain ⟨g0, g1, q0, q1, q2⟩ := HI5.out.at_
      clear hs5 hp5 hb5
      cases hok : (doF x a).2
      · have HS := Lib.hid (runS_no (r := (x, q)) hok)
        clear hok
        go_wp2_with fail
        go_roundw
        case rel => first | exact ⟨k + 1, q, _, _, _, _, _, _, x, by omega, by go_num, rfl, by omega, by rw [HT.out, HS.out], HI5.out.step (below_alloc _ _)⟩ | ((repeat apply Exists.intro); exact ⟨⟨k + 1, q, _, _, _, _, _, _, x, by omega, by go_num, rfl, by omega, by rw [HT.out, HS.out], HI5.out.step (below_alloc _ _)⟩, rfl⟩)
        case measure => simp [intOf]; omega
      · have HS := Lib.hid (runS_yes (r := (x, q)) hok)
        have HI8 := Lib.hid (HI.out.new (c7 := c7) HB5.out HN5.out)
        clear hok
        go_wp2_with fail
        go_roundw
        case rel => first | exact ⟨k + 1, q + 1, _, _, _, _, _, _, (doF x a).1, by omega, by go_num, by go_num, by omega, by rw [HT.out, HS.out], HI8.out.step (below_alloc _ _)⟩ | ((repeat apply Exists.intro); exact ⟨⟨k + 1, q + 1, _, _, _, _, _, _, (doF x a).1, by omega, by go_num, by go_num, by omega, by rw [HT.out, HS.out], HI8.out.step (below_alloc _ _)⟩, rfl⟩)
        case measure => simp [intOf]; omega
    · obtain rfl : k = l := by omega
      have HR : Hid (RetKN w (runF d ds) (.returned (.tuple #[.agg #[.slice A4 n4 c4, .slice A5 m5 c5], .int .i64 q])) ((wr.setCell ⟨w.heap.size + 1, 0, none⟩ (.slice A4 n4 c4)).setCell ⟨w.heap.size + 1, 1, none⟩ (.slice A5 m5 c5))) := by
        have h := HI.out.ret (q := q)
        rw [← HRUN.out, HFL.out] at h
        exact h
      obtain ⟨g0, g1, q0, q1, q2⟩ := HI.out.at_
      obtain ⟨r0, r1, s0, s1, s2⟩ := HI.out.res
      have hgr := HI.out.gt
      go_wp2_with fail
      refine bodyPost_ret (v := .tuple #[.agg #[.slice A4 n4 c4, .slice A5 m5 c5], .int .i64 q]) (by simp [results, Tryz.results15, go_sem, r0, r1]) rfl ?_
      exact HR.out

set_option maxHeartbeats 4000000 in
set_option maxRecDepth 100000 in
theorem sDeskRun (A A' : Option Addr) (n c m c' : Nat) (d : Dk) (L : Option Addr) (l lc : Nat) (ds : List Dd) (w : World) (hd : DkV w 0 A n c A' m d) (hz : DkS d) (hds : Ds w L l ds) (hl : l ≤ 1048576) (ht : ∀ a ∈ ds, a.text.length ≤ 1073741824)
    (hg : dkB d = true → ds.length ≤ 40 → ∃ a0, DkL d a0 ∧ 14 ≤ a0 ∧ a0 + 5 * (ds.length : Int) ≤ 122) :
    Calls Tryz.prog 16 #[.agg #[.slice A n c, .slice A' m c'], .slice L l lc] w (RetKN w (runF d ds)) := by
  have hdl := hds.1
  obtain ⟨w0, hw0⟩ : ∃ w0, w0 = (w.alloc (.cells #[.slice A n c, .slice A' m c'] 26)).alloc (.cells #[.slice none 0 0, .slice none 0 0] 26) := ⟨_, rfl⟩
  have HB0 : Hid (Below w.heap.size w w0) := by rw [hw0]; exact below2 _ _ _
  have HK0 : Hid (KAt w0 w.heap.size (.slice A n c) (.slice A' m c')) := by rw [hw0]; exact (KAt.new w _ _ _).below (below_alloc _ _) (by rw [size_alloc]; omega)
  have HR0 : Hid (KAt w0 (w.heap.size + 1) (.slice none 0 0) (.slice none 0 0)) := by
    have h := KAt.new (w.alloc (.cells #[.slice A n c, .slice A' m c'] 26)) (.slice none 0 0) (.slice none 0 0) 26
    rw [size_alloc] at h
    rw [hw0]; exact h
  have HV0 : Hid (DkV w0 0 A n c A' m d) := hd.below HB0.out
  have HOK : Hid (∀ w, DkV w 0 A n c A' m d → Calls Tryz.prog 17 #[.agg #[.slice A n c, .slice A' m c']] w fun e w' => e = .returned (.bool (dkB d)) ∧ Below w.heap.size w w') := fun w h => sDeskOk A A' n c m c' d w h hz
  have HCP : Hid (∀ w, DkV w 0 A n c A' m d → Calls Tryz.prog 39 #[.agg #[.slice A n c, .slice A' m c']] w (RetK w d)) := fun w h => sCopy A A' n c m c' d w h hz
  obtain ⟨k0, k1, l0, l1, l2⟩ := HK0.out
  by_cases hno : dkB d = false ∨ 40 < ds.length
  · have HF := Lib.hid (runF_no hno)
    have key : dkB d = false ∨ (dkB d = true ∧ (40 : Int) < (l : Int)) := by
      cases hb : dkB d
      · exact .inl rfl
      · rcases hno with h | h
        · rw [h] at hb; cases hb
        · exact .inr ⟨rfl, by omega⟩
    clear hd hz hds hg ht hno hdl
    rcases key with hb | ⟨hb, h40⟩
    all_goals
      rw [hb] at HOK
      clear hb
      go_enter Tryz.func16, Tryz.ntmps16
      go_wp2_with fail
      rw [← hw0]
      clear hw0
      refine (HOK.out _ HV0.out).mono ?_
      rintro e w1 ⟨rfl, hb1⟩
      have HB1 : Hid (Below w.heap.size w w1) := HB0.out.trans (hb1.mono HB0.out.size)
      obtain ⟨r0, r1, s0, s1, s2⟩ := HR0.out.below hb1 HR0.out.lt
      clear hb1 k0 k1 l0 l1 l2
      go_wp2_with fail
      refine bodyPost_ret (v := .tuple #[.agg #[.slice none 0 0, .slice none 0 0], .int .i64 0]) (by simp [results, Tryz.results16, go_sem, r0, r1]) rfl ?_
      rw [HF.out]
      exact ⟨_, _, _, _, _, _, rfl, DkV.zero _ _, (HB1.out.setCell (p := ⟨w.heap.size + 1, 0, none⟩) (by show w.heap.size ≤ w.heap.size + 1; omega) _).setCell (p := ⟨w.heap.size + 1, 1, none⟩) (by show w.heap.size ≤ w.heap.size + 1; omega) _⟩
  have hb : dkB d = true := eq_true_of_ne_false fun h => hno (.inl h)
  have h40 : ds.length ≤ 40 := Nat.le_of_not_lt fun h => hno (.inr h)
  have h40i : ¬ (40 : Int) < (l : Int) := by omega
  obtain ⟨a0, ha1, ha2, ha3⟩ := hg hb h40
  have HF := Lib.hid (runF_yes hb h40)
  have HG : Hid (∀ k, k < l → dkB (runG (d, 0) (ds.take k)).1 = true ∧ LvOk (runG (d, 0) (ds.take k)).1.now) := fun k hk => by
    have hlt : ((ds.take k).length : Int) ≤ (k : Int) := by rw [List.length_take]; omega
    obtain ⟨q1, q2⟩ := runG_ok hb ha1 ha2 0 (ds.take k) (by omega)
    exact ⟨q1, (q2.mono (show a0 + 5 * ((ds.take k).length : Int) ≤ a0 + 5 * (k : Int) by omega)).lvok (by omega) (by omega)⟩
  have HDO : Hid (∀ (k : Nat) (x : Dk) (q : Nat) (a : Dd) (w' : World) (A n c A' m c'), k < l → runG (d, 0) (ds.take k) = (x, q) → ds[k]? = some a → DkV w' 0 A n c A' m x → Calls Tryz.prog 10 #[.agg #[.slice A n c, .slice A' m c'], dv a] w' (RetKB w' (doF x a))) := fun k x q a w' A n c A' m c' hk hx ha h => by
    obtain ⟨q1, q2⟩ := HG.out k hk
    rw [hx] at q1 q2
    exact sDeskDo A A' n c m c' x a w' h (DkS.ok q1) (fun _ => q2) (ht a (List.mem_of_getElem? ha))
  have HFL : Hid (runG (d, 0) (ds.take l) = runF d ds) := by show _ = _; rw [HF.out, List.take_of_length_le (by omega)]
  have HDS := Lib.hid hds
  have HNL := Lib.hid hd.now.len
  have HPL := Lib.hid hd.past.len
  rw [hb] at HOK
  clear hd hz hds hg ht hno hb ha1 ha2 ha3 h40 hdl
  go_enter Tryz.func16, Tryz.ntmps16
  go_wp2_with fail
  rw [← hw0]
  clear hw0
  refine (HOK.out _ HV0.out).mono ?_
  rintro e w1 ⟨rfl, hb1⟩
  have HB1 : Hid (Below w.heap.size w w1) := HB0.out.trans (hb1.mono HB0.out.size)
  have HR1 := Lib.hid (HR0.out.below hb1 HR0.out.lt)
  have HV1 := Lib.hid (HV0.out.below hb1)
  clear k0 k1 l0 l1 l2
  obtain ⟨k0, k1, l0, l1, l2⟩ := HK0.out.below hb1 HK0.out.lt
  clear hb1
  go_wp2_with fail
  refine (HCP.out _ HV1.out).mono ?_
  rintro e w2 ⟨A2, n2, c2, A3, m3, c3, rfl, hs2, hp2, hb2, _⟩
  have hs1 : w.heap.size + 1 < w1.heap.size := HR1.out.lt
  have hs12 : w1.heap.size ≤ w2.heap.size := hb2.size
  have HB2 : Hid (Below w.heap.size w w2) := HB1.out.trans (hb2.mono HB1.out.size)
  obtain ⟨w3, hw3⟩ : ∃ w3, w3 = w2.alloc (.cells #[.slice A2 n2 c2, .slice A3 m3 c3] 26) := ⟨_, rfl⟩
  have HB3 : Hid (Below w2.heap.size w2 w3) := by rw [hw3]; exact below_alloc _ _
  have HI3 : Hid (RunI w w2.heap.size w3 A2 n2 c2 A3 m3 c3 d) := by
    have h1 : KAt w3 w2.heap.size (.slice A2 n2 c2) (.slice A3 m3 c3) := by rw [hw3]; exact KAt.new w2 _ _ _
    have h2 : DkV w2 w1.heap.size A2 n2 c2 A3 m3 d := ⟨hs2, hp2.ps⟩
    exact ⟨h1, (HR1.out.below hb2 HR1.out.lt).below HB3.out (by omega), ((h2.dkx (X := fun b => b = w2.heap.size ∨ b = w.heap.size + 1) fun b g1 g2 hx => by rcases hx with hx | hx <;> omega).kx (Kx.of HB3.out)).mono HB1.out.size, HB2.out.trans (HB3.out.mono HB2.out.size), by omega⟩
  clear k0 k1 l0 l1 l2 hs2 hp2 hb2
  obtain ⟨gb, hgb⟩ : ∃ gb, gb = w2.heap.size := ⟨_, rfl⟩
  go_wp2_with fail
  rw [← hw3, ← hgb]
  rw [← hgb] at HI3
  clear hw3 hgb HB3
  go_loopw [7, 8] (fun cnt i wr => ∃ (k q : Nat) (A : Option Addr) (n c : Nat) (A' : Option Addr) (m c' : Nat) (x : Dk), k ≤ l ∧ i = .int .i64 k ∧ cnt = .int .i64 q ∧ q ≤ k ∧ runG (d, 0) (ds.take k) = (x, q) ∧ RunI w gb wr A n c A' m c' x) (fun _ i _ => l - (intOf i).toNat)
  case atStart => first | exact ⟨0, 0, _, _, _, _, _, _, d, by omega, rfl, rfl, by omega, rfl, HI3.out⟩ | ((repeat apply Exists.intro); exact ⟨by omega, rfl, rfl, by omega, rfl, HI3.out⟩)
  case round =>
    obtain ⟨k, q, A4, n4, c4, A5, m5, c5, x, hk, rfl, rfl, hqk, hrun, hi⟩ := hrel
    have HI := Lib.hid hi
    have HRUN := Lib.hid hrun
    clear hrun hi
    by_cases hlt : k < l
    · obtain ⟨b, o, a, rfl, hbl, ha, hc0, hc1, hc2⟩ := HDS.out.at_ hlt
      have hck0 := (HI.out.below.cell (p := ⟨b, o + k * 3, none⟩) hbl).trans hc0
      have hck1 := (HI.out.below.cell (p := ⟨b, o + k * 3 + 1, none⟩) hbl).trans hc1
      have hck2 := (HI.out.below.cell (p := ⟨b, o + k * 3 + 2, none⟩) hbl).trans hc2
      have HCK := Lib.hid (And.intro hck0 (And.intro hck1 hck2))
      have hbr : b < wr.heap.size := Nat.lt_of_lt_of_le hbl HI.out.below.size
      have HT : Hid (runG (d, 0) (ds.take (k + 1)) = runS (x, q) a) := by show _ = _; rw [runG_take ha, HRUN.out]
      have KDO := Lib.hid (fun w' h => HDO.out k x q a w' A4 n4 c4 A5 m5 c5 hlt HRUN.out ha h)
      unfold dv at KDO
      have e1 : IntKind.i64.wrap ((q : Int) + 1) = (q : Int) + 1 := IntWalk.i64_in _ (by omega)
      clear ha hc0 hc1 hc2
      obtain ⟨g0, g1, q0, q1, q2⟩ := HI.out.at_
      go_wp2_with fail
      go_region_law ((go_simp; go_at_call 10; first
        | ((with_reducible refine Calls.mono (KDO.out _ ((HI.out.step (Below.refl _ wr).drew).dk.dkv.mono (Nat.zero_le _))) ?_); rintro e w5 ⟨A6, n6, c6, A7, m7, c7, rfl, hs5, hp5, _, hb5⟩; have HB5 := Lib.hid (below_d hb5); have HN5 : Hid (DkV w5 wr.heap.size A6 n6 c6 A7 m7 (doF x a).1) := ⟨hs5, hp5⟩; have HI5 := Lib.hid (HI.out.step HB5.out); clear hs5 hp5 hb5; obtain ⟨g3, g4, q3, q4, q5⟩ := HI5.out.at_)
        | ((with_reducible refine Calls.mono (KDO.out _ ((HI.out.step (below_alloc wr (.cells #[.slice none 0 0, .slice none 0 0] 26)).drew).dk.dkv.mono (Nat.zero_le _))) ?_); rintro e w5 ⟨A6, n6, c6, A7, m7, c7, rfl, hs5, hp5, _, hb5⟩; have HB5 := Lib.hid (below_da hb5); have HN5 : Hid (DkV w5 wr.heap.size A6 n6 c6 A7 m7 (doF x a).1) := (DkV.mk hs5 hp5).mono (below_alloc wr (.cells #[.slice none 0 0, .slice none 0 0] 26)).size; have HN6 : Hid (DkV w5 (wr.heap.size + 1) A6 n6 c6 A7 m7 (doF x a).1) := (DkV.mk hs5 hp5).mono (Nat.le_of_eq (size_alloc wr (.cells #[.slice none 0 0, .slice none 0 0] 26)).symm); have HT5 := Lib.hid (((KAt.new wr (.slice none 0 0) (.slice none 0 0) 26).below (Below.refl _ _).drew (KAt.new wr (.slice none 0 0) (.slice none 0 0) 26).lt).below hb5 (KAt.new wr (.slice none 0 0) (.slice none 0 0) 26).lt); have HI5 := Lib.hid (HI.out.step HB5.out); clear hs5 hp5 hb5; obtain ⟨g3, g4, q3, q4, q5⟩ := HI5.out.at_; obtain ⟨t0, t1, v0, v1, v2⟩ := HT5.out; have hgt : ¬ gb = wr.heap.size := (Nat.ne_of_lt HI.out.at_.lt))))
      all_goals
        cases hok : (doF x a).2
        · have HS := Lib.hid (runS_no (r := (x, q)) hok)
          clear hok
          go_wp2_with fail
          go_roundw
          case rel => first
            | exact ⟨k + 1, q, _, _, _, _, _, _, x, by omega, by go_num, rfl, by omega, by rw [HT.out, HS.out], HI5.out.step (below_alloc _ _)⟩
            | exact ⟨k + 1, q, _, _, _, _, _, _, x, by omega, by go_num, rfl, by omega, by rw [HT.out, HS.out], HI.out.step ((HB5.out.setCell (p := ⟨wr.heap.size, 0, none⟩) (Nat.le_refl _) _).setCell (p := ⟨wr.heap.size, 1, none⟩) (Nat.le_refl _) _)⟩
          case measure => simp [intOf]; omega
        · have HS := Lib.hid (runS_yes (r := (x, q)) hok)
          clear hok
          go_wp2_with fail
          go_roundw
          case rel => first
            | exact ⟨k + 1, q + 1, _, _, _, _, _, _, (doF x a).1, by omega, by go_num, by go_num, by omega, by rw [HT.out, HS.out], (HI.out.new (c7 := c7) HB5.out HN5.out).step (below_alloc _ _)⟩
            | exact ⟨k + 1, q + 1, _, _, _, _, _, _, (doF x a).1, by omega, by go_num, by go_num, by omega, by rw [HT.out, HS.out], HI.out.new (c7 := c7) ((HB5.out.setCell (p := ⟨wr.heap.size, 0, none⟩) (Nat.le_refl _) _).setCell (p := ⟨wr.heap.size, 1, none⟩) (Nat.le_refl _) _) ((HN6.out.pk (((Pk.refl wr.heap.size w5).setCell 0 _).setCell 1 _) (Nat.lt_succ_self _)).mono (Nat.le_succ _))⟩
          case measure => simp [intOf]; omega
    · obtain rfl : k = l := by omega
      have HR : Hid (RetKN w (runF d ds) (.returned (.tuple #[.agg #[.slice A4 n4 c4, .slice A5 m5 c5], .int .i64 q])) ((wr.setCell ⟨w.heap.size + 1, 0, none⟩ (.slice A4 n4 c4)).setCell ⟨w.heap.size + 1, 1, none⟩ (.slice A5 m5 c5))) := by
        have h := HI.out.ret (q := q)
        rw [← HRUN.out, HFL.out] at h
        exact h
      obtain ⟨g0, g1, q0, q1, q2⟩ := HI.out.at_
      obtain ⟨r0, r1, s0, s1, s2⟩ := HI.out.res
      have hgr := HI.out.gt
      go_wp2_with fail
      refine bodyPost_ret (v := .tuple #[.agg #[.slice A4 n4 c4, .slice A5 m5 c5], .int .i64 q]) (by simp [results, Tryz.results16, go_sem, r0, r1]) rfl ?_
      exact HR.out
end Go.Proofs.YtnomlkkhkacajaaGreatDoor
namespace Go.Proofs.YtnomlkkhkacajaaGreatDoor
open Go.RowKit
open Go.Lib hiding intOf

theorem Code8.below {w w' : World} {A : Option Addr} {n : Nat} (h : Code8 w A n) (hb : Below w.heap.size w w') : Code8 w' A n := by
  rcases h with h | ⟨b, o, h1, h2, h3⟩
  · exact .inl h
  · refine .inr ⟨b, o, h1, Nat.lt_of_lt_of_le h2 hb.size, fun k hk => ?_⟩
    obtain ⟨u, h4, h5⟩ := h3 k hk
    exact ⟨u, h4, (hb.cell (p := ⟨b, o + k, none⟩) h2).trans h5⟩
/-- A deed that is drawn. -/
def RetDT (w : World) (e : Ending) (w' : World) : Prop := ∃ a : Dd, e = .returned (dv a) ∧ a.text.length ≤ 706 ∧ -1000 ≤ a.num ∧ a.num ≤ 1000 ∧ Below w.heap.size w w'
/-- What becomes of a text that is spoilt. -/
def spoilX (j : Nat) : Txt := ([[], [48], [32], [10], [45], [98, 97, 99, 107]] : List Txt).getD j []
theorem spoilX_len (j : Nat) : (spoilX j).length ≤ 4 := by
  unfold spoilX
  rcases j with _ | _ | _ | _ | _ | _ | j
  all_goals first | decide | simp
def SpoilV (t u : Txt) : Prop := (t = [] ∧ u = [10]) ∨ ∃ k j, k < t.length ∧ j < 6 ∧ u = t.take k ++ spoilX j ++ t.drop (k + 1)
theorem SpoilV.len {t u : Txt} (h : SpoilV t u) : u.length ≤ t.length + 4 := by
  rcases h with ⟨rfl, rfl⟩ | ⟨k, j, hk, _, rfl⟩
  · simp
  · have := spoilX_len j
    rw [List.length_append, List.length_append, List.length_take, List.length_drop]; omega
def RetSp (t : Txt) (w : World) (g p : Nat) (e : Ending) (w' : World) : Prop := ∃ u : Txt, e = .returned (.string (bs u)) ∧ SpoilV t u ∧ Rd w' g p ∧ Pk g w w'
theorem spoil_lit (j : Nat) (h : j < 6) : (#[.string { data := #[] }, .string { data := #[48] }, .string { data := #[32] }, .string { data := #[10] }, .string { data := #[45] }, .string { data := #[98, 97, 99, 107] }] : Array Value)[j]? = some (.string (bs (spoilX j))) := by
  have : j = 0 ∨ j = 1 ∨ j = 2 ∨ j = 3 ∨ j = 4 ∨ j = 5 := by omega
  rcases this with rfl | rfl | rfl | rfl | rfl | rfl <;> rfl

set_option maxHeartbeats 2000000 in
set_option maxRecDepth 100000 in
theorem spoil_any (g p : Nat) (t : Txt) (w5 : World) (hp : p ≤ 600000) (ht : t.length ≤ 100000) (hr : Rd w5 g p) :
    Calls Tryz.prog 65 #[.pointer (some ⟨g, 0, none⟩), .string (bs t)] w5 (RetSp t w5 g (p + 2)) := by
  have hsz : (bs t).size = t.length := bs_size t
  have hx := bs_extract t
  by_cases ht0 : t.length = 0
  · have ht1 : t = [] := List.length_eq_zero_iff.1 ht0
    subst ht1
    go_enter Tryz.func65, Tryz.ntmps65
    go_wp2_with fail
    go_ret
    exact ⟨[10], rfl, .inl ⟨rfl, rfl⟩, hr.mono (by omega), Pk.refl _ _⟩
  · have hl0 : 0 < t.length := by omega
    have e0 : ((t.length : Int) == 0) = false := by rw [beq_eq_false_iff_ne]; omega
    go_enter Tryz.func65, Tryz.ntmps65
    go_wp2_with fail
    refine (pick_any g p (min (t.length : Int) 250) w5 (by omega) (by omega) hr).mono ?_
    rintro e w6 ⟨b, rfl, ⟨b1, b2, _⟩, hr6, hp6⟩
    have b3 := b2 (by omega)
    obtain ⟨k, rfl⟩ := Int.eq_ofNat_of_zero_le b1
    have hk : k < t.length := by omega
    have HP6 : Hid (Pk g w5 w6) := hp6
    have hg6 := hr6.lt
    have HR6 : Hid (Rd w6 g (p + 1)) := hr6
    clear hp6 b1 b2 b3 hr hr6
    have K : Hid (∀ w', Rd w' g (p + 1) → Calls Tryz.prog 62 #[.pointer (some ⟨g, 0, none⟩), .int .i64 6] w' (RetP w' g (p + 1) 6)) := fun w' h => pick_any g (p + 1) 6 w' (by omega) (by omega) h
    have i1 : (k : Int) < (t.length : Int) := by omega
    have i2 : IntKind.i64.wrap ((k : Int) + 1) = (k : Int) + 1 := IntWalk.i64_in _ (by omega)
    have i3 : (k : Int) + 1 ≤ (t.length : Int) := by omega
    have i4 : (0 : Int) ≤ (k : Int) + 1 := by omega
    have i5 : ((k : Int) + 1).toNat = k + 1 := by omega
    have i6 : k ≤ t.length := by omega
    have zA : (bs (List.take k t)).size ≤ 100000 := by rw [bs_size, List.length_take]; omega
    have zB : (bs (List.take (t.length - (k + 1)) (List.drop (k + 1) t))).size ≤ 100000 := by rw [bs_size, List.length_take, List.length_drop]; omega
    have ZU : Hid (∀ u : Txt, u.length ≤ 4 → ¬ 9223372036854775807 < (bs (List.take k t)).size + (bs u).size ∧ ¬ 9223372036854775807 < (bs (List.take k t)).size + (bs u).size + (bs (List.take (t.length - (k + 1)) (List.drop (k + 1) t))).size) := fun u hu => by
      rw [bs_size, bs_size, bs_size, List.length_take, List.length_take, List.length_drop]; omega
    have HTL : Hid (t.length ≤ 100000) := ht
    have HK := Lib.hid hk
    have hdt : List.take (t.length - (k + 1)) (List.drop (k + 1) t) = List.drop (k + 1) t := List.take_of_length_le (by rw [List.length_drop]; omega)
    have HDT := Lib.hid hdt
    clear hdt
    go_wp2_with fail
    go_region_law ((go_simp; go_at_call 62; (with_reducible refine Calls.mono (K.out _ (by first | exact Rd.drew (HR6.out.below (below_alloc _ _)) | exact Rd.drew HR6.out)) ?_); rintro e w7 ⟨d, rfl, ⟨d1, d2, _⟩, hr7, hp7⟩; obtain ⟨d, rfl⟩ := Int.eq_ofNat_of_zero_le d1; (have d3 : d < 6 := (by have := d2 (by omega); omega)); (have hcu := spoil_lit d d3); obtain ⟨zU, zAU⟩ := ZU.out (spoilX d) (spoilX_len d); have HD3 := Lib.hid d3; have HR7 := Lib.hid hr7; (have d4 : (d : Int) < 6 := (by omega)); first | (have cc := lit_cell _ _ (Pk.of_drewN (m := 1) hp7) hg6 hcu; have HP7 : Hid (Pk g w6 w7) := (Pk.of_below (below_alloc _ _)).trans (Pk.of_drewN (m := 1) hp7); clear hp7 hcu) | (have cc : (w7.alloc (.cells (#[.string { data := #[] }, .string { data := #[48] }, .string { data := #[32] }, .string { data := #[10] }, .string { data := #[45] }, .string { data := #[98, 97, 99, 107] }] : Array Value) 9)).cell? ⟨w7.heap.size, d, none⟩ = some (.string (bs (spoilX d))) := (World.cell?_alloc_at _ _ _ _ rfl).trans hcu; clear hcu; have HP7 : Hid (Pk g w6 w7) := Pk.of_drewN (m := 1) hp7; clear hp7)))
    all_goals
      go_wp2_with fail
      go_ret
      have HFE : bs (List.take k t) ++ bs (spoilX d) ++ bs (List.take (t.length - (k + 1)) (List.drop (k + 1) t)) = bs (List.take k t ++ spoilX d ++ List.drop (k + 1) t) := by rw [bs_append, bs_append, HDT.out]
      rw [HFE]
      first
        | exact ⟨_, rfl, .inr ⟨k, d, HK.out, HD3.out, rfl⟩, HR7.out, HP6.out.trans HP7.out⟩
        | exact ⟨_, rfl, .inr ⟨k, d, HK.out, HD3.out, rfl⟩, HR7.out.below (below_alloc _ _), HP6.out.trans (HP7.out.trans (Pk.of_below (below_alloc _ _)))⟩
theorem dText_len (a : Dd) (h : a.text.length ≤ 706) : (dText a).length ≤ 712 := by
  by_cases h0 : dText a = []
  · rw [h0]; simp
  · rcases dText_cases h0 with ⟨_, _, _, e⟩ | ⟨h1, _, h3, h4, e⟩ | ⟨h1, _, _, e⟩
    · rw [e, List.length_append, List.length_cons]
      have : (wordOf 0).length = 5 := rfl
      omega
    · rw [e, List.length_append, List.length_cons]
      have := wordOf_len a.kind
      have := itoa_small a.num (by omega) (by omega)
      omega
    · rw [e]
      have := wordOf_len a.kind
      omega
end Go.Proofs.YtnomlkkhkacajaaGreatDoor
