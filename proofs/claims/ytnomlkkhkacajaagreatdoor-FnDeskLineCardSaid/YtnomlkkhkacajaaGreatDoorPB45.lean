/- Texts on the way to a law (V2, V3, D7, V4, H14), each with its own remark. -/
import Derived.Test.YtnomlkkhkacajaaGreatDoorPB17
import Derived.Test.YtnomlkkhkacajaaGreatDoorPB15
import Derived.Test.YtnomlkkhkacajaaGreatDoorPB11
import Derived.Test.YtnomlkkhkacajaaGreatDoorPB27
import Derived.Test.YtnomlkkhkacajaaGreatDoorPB08
import Derived.Deep.RegionLaw
import Derived.Test.YtnomlkkhkacajaaGreatDoorPB12
import Derived.Test.YtnomlkkhkacajaaGreatDoorPB18
namespace Go.Proofs.YtnomlkkhkacajaaGreatDoor
open Go.RowKit

theorem Tryz.eF : Elem Tryz.prog 124 120 (.float .f64 0) 8 := Elem.mk' Tryz.underlying124 (by kernel_rfl) rfl
def fv (x : Nat) : Value := .float .f64 x
/-- The powers of numbers. -/
def pwL (f : C → Nat) (l : List C) : List Nat := l.map f
theorem pwL_get {f : C → Nat} {l : List C} {k : Nat} (h : k < l.length) : ((pwL f l).map fv)[k]? = some (fv (f (nth l k))) := by
  unfold pwL
  rw [List.getElem?_map, List.getElem?_map, List.getElem?_eq_getElem h, nth_eq h]; rfl
/-- A list of powers, and whether it is told. -/
def RetF (w : World) (ps : List Nat) (ok : Bool) (e : Ending) (w' : World) : Prop :=
  ∃ (A : Option Addr) (c : Nat), e = .returned (.tuple #[.slice A ps.length c, .bool ok]) ∧ Ow w' w.heap.size 120 (.slice A ps.length c) ps.length (ps.map fv) ∧ Below w.heap.size w w'
theorem conv64 (P : Program) {src dst : TypeId} (hs : (P.underlying src).isSome = true) (hd : P.underlying dst = some (.float .f64)) {x : Nat} (h : Fin Ieee.single x) (w : World) :
    (convert src dst (.float .f32 x)).run P w = .ok (.float .f64 (wide x)) w :=
  run_convert_float_float (w := w) src dst .f32 .f64 x (wide x) hs hd (conv_wide h)

theorem Ow.capV {w : World} {B n c : Nat} {E : TypeId} {A : Option Addr} {vs : List Value} (h : Ow w B E (.slice A n c) n vs) : n ≤ c := by
  rcases h.2 with ⟨hv, hn⟩ | ⟨g, cap, cur, hv, _, _, r⟩
  · omega
  · injection hv with _ _ h3
    subst h3
    exact r.1

set_option maxHeartbeats 2000000 in
set_option maxRecDepth 100000 in
theorem iPowers (A : Option Addr) (n c : Nat) (xs : List C) (w : World) (hn : n ≤ 1048576) (hx : Cs w A n xs) (hg : Good xs) :
    Calls Tryz.prog 124 #[.slice A n c] w (RetF w (pwL pwI ((transF xs).getD [])) (transF xs).isSome) := by
  have HT : Hid (∀ w, Cs w A n xs → Calls Tryz.prog 110 #[.slice A n c] w (RetO w (transF xs))) := fun w h => iTransform A n c xs w hn h fun hs => (hg hs).1
  cases ht : transF xs with
  | none =>
    rw [ht] at HT
    clear ht hg
    go_enter Tryz.func124, Tryz.ntmps124
    go_wp2_with fail
    refine (HT.out w hx).mono ?_
    rintro e w1 ⟨A1, m1, c1, rfl, ho1, hb1⟩
    simp only [Option.isSome_none]
    go_wp2_with fail
    go_ret2
    exact ⟨_, _, rfl, Ow.nil_ _ _ _, hb1⟩
  | some l =>
    rw [ht] at HT
    have hsz : sizB xs = true := by
      cases hs : sizB xs
      · rw [transF_no hs] at ht; cases ht
      · rfl
    obtain ⟨_, l', e', hl2, hmd⟩ := hg hsz
    rw [ht] at e'
    injection e' with e'
    subst e'
    obtain ⟨s1, s2, s3, s4, s5⟩ := siz_parts hsz
    have h16 : l.length ≤ 16 := by omega
    have HF : Hid (∀ i, i < l.length → finB (nth l i) = true) := fun i hi => (hmd i (by omega)).1
    clear ht hg hmd hl2 hsz s1 s2 s3 s4 s5
    obtain ⟨N, hN⟩ : ∃ N, N = l.length := ⟨_, rfl⟩
    have HN := Lib.hid hN
    rw [← hN] at h16
    clear hN
    go_enter Tryz.func124, Tryz.ntmps124
    go_wp2_with fail
    refine (HT.out w hx).mono ?_
    rintro e w1 ⟨A1, m1, c1, rfl, ho1, hb1⟩
    obtain rfl : m1 = N := by have h1 := ho1.len; rw [List.length_map] at h1; rw [HN.out]; exact h1.symm
    simp only [Option.isSome_some]
    have HX1 : Hid (Cs w1 A1 m1 l) := ho1.sl
    have HB1 := Lib.hid hb1
    clear ho1 hb1 hx
    go_wp2_with (at_make; refine wl_make (w0 := w1) rfl (.tmp 19) (.tmp 19) 124 rfl Tryz.eF .i64 .i64 m1 _ _ rfl rfl rfl rfl (by omega) (by unfold maxLen; omega) (Below.refl _ _) ?_; intro w2 hown hb2 _)
    have HO2 : Hid (Ow w2 w1.heap.size 120 (.slice (some ⟨w1.heap.size, 0, none⟩) m1 m1) m1 (fill ((pwL pwI l).map fv) m1 0 (.float .f64 0))) := by
      show Ow _ _ _ _ _ _
      rw [fill_zero]
      exact hown
    have HB2 := Lib.hid hb2
    have HPL : Hid (((pwL pwI l).map fv).length = m1) := by show _ = _; unfold pwL; rw [List.length_map, List.length_map]; exact HN.out.symm
    clear hown hb2
    go_loopw [23] (fun i wr => ∃ k : Nat, k ≤ m1 ∧ i = .int .i64 k ∧ Ow wr w1.heap.size 120 (.slice (some ⟨w1.heap.size, 0, none⟩) m1 m1) m1 (fill ((pwL pwI l).map fv) m1 k (.float .f64 0)) ∧ Below w1.heap.size w1 wr) (fun i _ => m1 - (intOf i).toNat)
    case atStart => exact ⟨0, by omega, rfl, HO2.out, HB2.out⟩
    case round =>
      obtain ⟨k, hk, rfl, ho, hb⟩ := hrel
      have HO := Lib.hid ho
      have HB := Lib.hid hb
      clear ho
      by_cases hlt : k < m1
      · obtain ⟨b, o, rfl, hbl, hc⟩ := HX1.out.at_ hlt
        have hck : wr.cell? ⟨b, o + k, none⟩ = some (cv (nth l k)) := (hb.cell (p := ⟨b, o + k, none⟩) hbl).trans (hc k hlt)
        have hkl : k < l.length := by rw [← HN.out]; exact hlt
        have hf := HF.out k hkl
        obtain ⟨f1, f2⟩ := finB_iff.1 hf
        obtain ⟨p1, p2, p3⟩ := pwI_spec hf
        have q1 := fun w => conv64 Tryz.prog (src := 131) (dst := 120) (by kernel_rfl) Tryz.underlying120 f1 w
        have q2 := fun w => conv64 Tryz.prog (src := 131) (dst := 120) (by kernel_rfl) Tryz.underlying120 f2 w
        have q3 := fun w => run_float_arith (P := Tryz.prog) w .mul 120 .f64 _ _ _ (m64_spec f1 f1).1
        have q4 := fun w => run_float_arith (P := Tryz.prog) w .mul 120 .f64 _ _ _ (m64_spec f2 f2).1
        have q5 := fun w => run_float_arith (P := Tryz.prog) w .add 120 .f64 _ _ _ p1
        obtain ⟨g, hg, hge, hgl, hcell, hfr, hst⟩ := Ow.at_ HO.out hlt
        injection hg with hg
        injection hg with hg
        subst hg
        have hck2 : wr.cell? ⟨w1.heap.size, k, none⟩ = some (.float .f64 0) := (hcell k hlt).trans (fill_get HPL.out hlt _)
        have hfr2 := hfr k
        have hst2 := hst k (fv (pwI (nth l k)))
        rw [fill_set HPL.out hlt _ _ (pwL_get hkl)] at hst2
        have HS := Lib.hid hst2
        clear hst2 hcell hfr hst hb hc f1 f2 hf p1 p2 p3
        generalize pwI (nth l k) = pw at *
        generalize m64 (nth l k).1 (nth l k).1 = ma at *
        generalize m64 (nth l k).2 (nth l k).2 = mb at *
        generalize nth l k = z at *
        unfold cv at hck
        unfold fv at HS
        go_wp2_with fail
        go_roundw
        case rel => exact ⟨k + 1, by omega, by go_num, HS.out, HB.out.setCell (Nat.le_refl _) _⟩
        case measure => simp [intOf]; omega
      · obtain rfl : k = m1 := by omega
        have HR : Hid (RetF w (pwL pwI l) true (.returned (.tuple #[.slice (some ⟨w1.heap.size, 0, none⟩) k k, .bool true])) wr) := by
          have h1 := HO.out
          rw [fill_full HPL.out] at h1
          have e : (pwL pwI l).length = k := by have := HPL.out; rw [List.length_map] at this; exact this
          exact ⟨_, _, by rw [e], by rw [e]; exact h1.mono HB1.out.size, HB1.out.trans (HB.out.mono HB1.out.size)⟩
        clear hb
        go_wp2_with fail
        go_ret2
        exact HR.out

set_option maxHeartbeats 2000000 in
set_option maxRecDepth 100000 in
theorem sEnergy1 (A : Option Addr) (c : Nat) (z : C) (w : World) (hx : Cs w A 1 [z]) (hf : finB z = true) :
    Calls Tryz.prog 129 #[.slice A 1 c] w fun e w' => e = .returned (.float .f64 (pwS z)) ∧ Dr w w' := by
  have HC : Hid (∀ w, Cs w A 1 [z] → Calls Tryz.prog 47 #[.slice A 1 c] w fun e w' => e = .returned (.bool true) ∧ Dr w w') := fun w h => by
    have := sSignalOk A 1 c [z] w (by omega) h
    have e : sigB [z] = true := by unfold sigB; simp [hf]
    rw [e] at this
    exact this
  obtain ⟨b, o, rfl, hbl, hc⟩ := hx.at_ (k := 0) (by omega)
  have hck : w.cell? ⟨b, o, none⟩ = some (cv z) := hc 0 (by omega)
  obtain ⟨f1, f2⟩ := finB_iff.1 hf
  obtain ⟨p1, p2, _, _⟩ := pwS_spec hf
  have q1 := fun w => conv64 Tryz.prog (src := 131) (dst := 120) (by kernel_rfl) Tryz.underlying120 f1 w
  have q2 := fun w => conv64 Tryz.prog (src := 131) (dst := 120) (by kernel_rfl) Tryz.underlying120 f2 w
  have q3 := fun w => run_float_arith (P := Tryz.prog) w .mul 120 .f64 _ _ _ (m64_spec f1 f1).1
  have q4 := fun w => run_float_arith (P := Tryz.prog) w .mul 120 .f64 _ _ _ (m64_spec f2 f2).1
  have q5 := fun w => run_float_arith (P := Tryz.prog) w .add 120 .f64 _ _ _ p1
  have q6 := fun w => run_float_arith (P := Tryz.prog) w .add 120 .f64 _ _ _ p2
  clear hc f1 f2 p1 p2 hf
  generalize pwS z = ps at *
  generalize pwA z = pa at *
  generalize m64 z.1 z.1 = ma at *
  generalize m64 z.2 z.2 = mb at *
  have HX := Lib.hid hx
  clear hx
  unfold cv at hck
  go_enter Tryz.func129, Tryz.ntmps129
  go_wp2_with fail
  refine (HC.out w HX.out).mono ?_
  rintro e w' ⟨rfl, m, rfl⟩
  have hckd : (w.drewN m).cell? ⟨b, o, none⟩ = some (.complex .f32 z.1 z.2) := hck
  go_wp2_with fail
  go_loopw [3, 4] (fun s i wr => ((s = .float .f64 0 ∧ i = .int .i64 0) ∨ (s = .float .f64 ps ∧ i = .int .i64 1)) ∧ wr = w.drewN m) (fun _ i _ => 1 - (intOf i).toNat)
  case atStart => exact ⟨.inl ⟨rfl, rfl⟩, rfl⟩
  case round =>
    obtain ⟨⟨rfl, rfl⟩ | ⟨rfl, rfl⟩, rfl⟩ := hrel
    · go_wp2_with fail
      go_roundw
      case rel => exact ⟨.inr ⟨rfl, rfl⟩, by first | trivial | rfl⟩
      case measure => simp [intOf]
    · go_wp2_with fail
      go_ret
      exact ⟨rfl, m, rfl⟩

theorem Cs.one {w : World} {g o n k : Nat} {xs : List C} (h : Cs w (some ⟨g, o, none⟩) n xs) (hk : k < n) : Cs w (some ⟨g, o + k, none⟩) 1 [nth xs k] := by
  have hl := h.len
  obtain ⟨b, o', h1, h2, h3⟩ := h.at_ hk
  injection h1 with h1
  injection h1 with h1 h4
  subst h1
  subst h4
  refine ⟨rfl, .inr ⟨g, o + k, rfl, h2, fun j v hv => ?_⟩⟩
  have hj : j = 0 := by have := (List.getElem?_eq_some_iff.1 hv).1; simp at this; exact this
  subst hj
  simp at hv
  rw [← hv]
  exact h3 k hk
set_option maxHeartbeats 2000000 in
set_option maxRecDepth 100000 in
theorem sPowers (A : Option Addr) (n c : Nat) (xs : List C) (w : World) (hn : n ≤ 1048576) (hx : Cs w A n xs) (hg : Good xs) :
    Calls Tryz.prog 100 #[.slice A n c] w (RetF w (pwL pwS ((transF xs).getD [])) (transF xs).isSome) := by
  have HT : Hid (∀ w, Cs w A n xs → Calls Tryz.prog 82 #[.slice A n c] w (RetO w (transF xs))) := fun w h => sTransform A n c xs w hn h fun hs => (hg hs).1
  cases ht : transF xs with
  | none =>
    rw [ht] at HT
    clear ht hg
    go_enter Tryz.func100, Tryz.ntmps100
    go_wp2_with fail
    refine (HT.out w hx).mono ?_
    rintro e w1 ⟨A1, m1, c1, rfl, ho1, hb1⟩
    obtain rfl : m1 = 0 := by have h1 := ho1.len; simpa using h1.symm
    simp only [Option.isSome_none]
    have HR : Hid (RetF w (pwL pwS []) false (.returned (.tuple #[.slice (some ⟨w1.heap.size, 0, none⟩) 0 0, .bool false])) (w1.alloc (.cells #[] 120))) :=
      ⟨_, _, rfl, (Ow.empty w1 120).mono hb1.size, hb1.alloc hb1.size _⟩
    clear ho1 hb1
    go_wp2_with fail
    go_loopw [6, 7] (fun v i wr => v = .slice (some ⟨w1.heap.size, 0, none⟩) 0 0 ∧ i = .int .i64 0 ∧ w1.alloc (.cells #[] 120) = wr) (fun _ i _ => (intOf i).toNat)
    case atStart => exact ⟨rfl, rfl, rfl⟩
    case round =>
      obtain ⟨rfl, rfl, rfl⟩ := hrel
      go_wp2_with fail
      go_ret2
      exact HR.out
  | some l =>
    rw [ht] at HT
    have hsz : sizB xs = true := by
      cases hs : sizB xs
      · rw [transF_no hs] at ht; cases ht
      · rfl
    obtain ⟨_, l', e', hl2, hmd⟩ := hg hsz
    rw [ht] at e'
    injection e' with e'
    subst e'
    obtain ⟨s1, s2, s3, s4, s5⟩ := siz_parts hsz
    have h16 : l.length ≤ 16 := by omega
    have h1n : 1 ≤ l.length := by omega
    have HF : Hid (∀ i, i < l.length → finB (nth l i) = true) := fun i hi => (hmd i (by omega)).1
    clear ht hg hmd hl2 hsz s1 s2 s3 s4 s5
    obtain ⟨N, hN⟩ : ∃ N, N = l.length := ⟨_, rfl⟩
    have HN := Lib.hid hN
    rw [← hN] at h16 h1n
    clear hN
    go_enter Tryz.func100, Tryz.ntmps100
    go_wp2_with fail
    refine (HT.out w hx).mono ?_
    rintro e w1 ⟨A1, m1, c1, rfl, ho1, hb1⟩
    obtain rfl : m1 = N := by have h1 := ho1.len; rw [List.length_map] at h1; rw [HN.out]; exact h1.symm
    have hcap := Ow.capV ho1
    obtain ⟨g, rfl, _⟩ := Ow.at_ ho1 (k := 0) (by omega)
    simp only [Option.isSome_some]
    have HX1 : Hid (Cs w1 (some ⟨g, 0, none⟩) m1 l) := ho1.sl
    have HB1 := Lib.hid hb1
    have HE : Hid (Ow (w1.alloc (.cells #[] 120)) w1.heap.size 120 (.slice (some ⟨w1.heap.size, 0, none⟩) 0 0) 0 (((pwL pwS l).map fv).take 0)) := Ow.empty w1 120
    have HBE : Hid (Below w1.heap.size w1 (w1.alloc (.cells #[] 120))) := below_alloc _ _
    have HPL : Hid (((pwL pwS l).map fv).length = m1) := by show _ = _; unfold pwL; rw [List.length_map, List.length_map]; exact HN.out.symm
    clear ho1 hb1 hx
    go_wp2_with fail
    go_loopw [6, 7] (fun v i wr => ∃ k : Nat, k ≤ m1 ∧ i = .int .i64 k ∧ Ow wr w1.heap.size 120 v k (((pwL pwS l).map fv).take k) ∧ Below w1.heap.size w1 wr) (fun _ i _ => m1 - (intOf i).toNat)
    case atStart => exact ⟨0, by omega, rfl, HE.out, HBE.out⟩
    case round =>
      obtain ⟨k, hk, rfl, ho, hb⟩ := hrel
      have HO := Lib.hid ho
      have HB := Lib.hid hb
      clear ho
      by_cases hlt : k < m1
      · have hkl : k < l.length := by rw [← HN.out]; exact hlt
        have HC1 : Hid (Cs wr (some ⟨g, k, none⟩) 1 [nth l k]) := by
          have := (HX1.out.below hb).one hlt
          rw [Nat.zero_add] at this
          exact this
        have hfin := HF.out k hkl
        have HEN : Hid (∀ c, Calls Tryz.prog 129 #[.slice (some ⟨g, k, none⟩) 1 c] wr fun e w' => e = .returned (.float .f64 (pwS (nth l k))) ∧ Dr wr w') := fun c => sEnergy1 _ c _ wr HC1.out hfin
        have HSN : Hid (((pwL pwS l).map fv).take k ++ [fv (pwS (nth l k))] = ((pwL pwS l).map fv).take (k + 1)) := take_snoc' (pwL_get hkl)
        have hkc : k + 1 ≤ c1 := by omega
        have hkc2 : k < c1 := by omega
        have e1 : k + 1 - k = 1 := by omega
        clear hb hfin
        generalize pwS (nth l k) = pw at *
        go_wp2_with fail
        refine (HEN.out _).mono ?_
        rintro e w4 ⟨rfl, mm, hw4⟩
        have HO4 : Hid (Ow w4 w1.heap.size 120 u6 k (((pwL pwS l).map fv).take k)) := by rw [hw4]; exact HO.out.drewN mm
        have HB4 : Hid (Below w1.heap.size w1 w4) := by rw [hw4]; exact below_drewN HB.out mm
        have hsz4 := HB4.out.size
        clear hw4
        go_wp2_with (at_builtin; refine wl_appB w1.heap.size [.float .f64 pw] hsz4 rfl (.tmp 23) (.tmp 30) 124 rfl Tryz.eF _ k _ rfl HO4.out rfl (by simp [Value.oneCell']) (by simp [maxLen]; omega) (by simp; omega) ?_; intro v' w5 ho5 hb5; have HO5 := Lib.hid ho5; have HB5 := Lib.hid hb5; clear ho5 hb5)
        go_roundw
        case rel => exact ⟨k + 1, by omega, by go_num, by rw [← HSN.out]; exact HO5.out, HB4.out.trans HB5.out⟩
        case measure => simp [intOf]; omega
      · obtain rfl : k = m1 := by omega
        obtain ⟨A2, c2, rfl⟩ := HO.out.shape
        have HR : Hid (RetF w (pwL pwS l) true (.returned (.tuple #[.slice A2 k c2, .bool true])) wr) := by
          have h1 := HO.out
          rw [List.take_of_length_le (by rw [HPL.out]; omega)] at h1
          have e : (pwL pwS l).length = k := by have := HPL.out; rw [List.length_map] at this; exact this
          exact ⟨_, _, by rw [e], by rw [e]; exact h1.mono HB1.out.size, HB1.out.trans (HB.out.mono HB1.out.size)⟩
        clear hb
        go_wp2_with fail
        go_ret2
        exact HR.out
end Go.Proofs.YtnomlkkhkacajaaGreatDoor
namespace Go.Proofs.YtnomlkkhkacajaaGreatDoor
open Go.RowKit

def fth (ps : List Nat) (k : Nat) : Nat := ps.getD k 0
theorem fth_get {ps : List Nat} {k : Nat} (h : k < ps.length) : (ps.map fv)[k]? = some (.float .f64 (fth ps k)) := by
  unfold fth
  rw [List.getElem?_map, List.getElem?_eq_getElem h, List.getD_eq_getElem?_getD, List.getElem?_eq_getElem h]; rfl
theorem Sl.flt_at {w : World} {A : Option Addr} {n k : Nat} {ps : List Nat} (h : Sl w A n (ps.map fv)) (hk : k < n) :
    ∃ b o, A = some ⟨b, o, none⟩ ∧ b < w.heap.size ∧ ∀ j, j < n → w.cell? ⟨b, o + j, none⟩ = some (.float .f64 (fth ps j)) := by
  obtain ⟨b, o, hA, hb, hc⟩ := Sl.at_ h hk
  have hl := h.len
  rw [List.length_map] at hl
  exact ⟨b, o, hA, hb, fun j hj => hc j _ (fth_get (by omega))⟩
set_option maxHeartbeats 1000000 in
theorem iSumAll (A : Option Addr) (n c : Nat) (ps : List Nat) (w : World) (hn : n ≤ 16) (hx : Sl w A n (ps.map fv)) (hp : ∀ i, i < n → PwOk (fth ps i)) :
    Calls Tryz.prog 128 #[.slice A n c] w fun e w' => e = .returned (.float .f64 (smT (fth ps) n)) ∧ Dr w w' := by
  have HP := Lib.hid hp
  have HS : Hid (∀ i, i < n → floatBits .add .f64 (smT (fth ps) i) (fth ps i) = some (smT (fth ps) (i + 1))) := fun i hi => (smT_step (smT_ok hn hp i (by omega)).1 (hp i hi).1).1
  clear hp
  go_enter Tryz.func128, Tryz.ntmps128
  go_wp2_with fail
  go_loopw [3, 8] (fun s i wr => ∃ k : Nat, k ≤ n ∧ i = .int .i64 k ∧ s = .float .f64 (smT (fth ps) k) ∧ ∃ m, wr = w.drewN m) (fun _ i _ => n - (intOf i).toNat)
  case atStart => exact ⟨0, by omega, rfl, rfl, 0, rfl⟩
  case round =>
    obtain ⟨k, hk, rfl, rfl, m, rfl⟩ := hrel
    by_cases hlt : k < n
    · obtain ⟨b, o, rfl, hb, hc⟩ := hx.flt_at hlt
      have hck : (w.drewN m).cell? ⟨b, o + k, none⟩ = some (.float .f64 (fth ps k)) := hc k hlt
      have q1 := fun w => run_float_arith (P := Tryz.prog) w .add 120 .f64 _ _ _ (HS.out k hlt)
      clear hc hx
      go_wp2_with fail
      go_roundw
      case rel => exact ⟨k + 1, by omega, by go_num, rfl, m, rfl⟩
      case measure => simp [intOf]; omega
    · obtain rfl : k = n := by omega
      go_wp2_with fail
      go_ret
      exact ⟨rfl, m, rfl⟩

/-- Which tones are great. -/
def tonsL (ps : List Nat) (m : Int) : List Int := (List.range ps.length).map fun k => b2i (tonI (fth ps) ps.length m k)
theorem tonsL_len (ps : List Nat) (m : Int) : (tonsL ps m).length = ps.length := by simp [tonsL]
theorem tonsL_get {ps : List Nat} {n k : Nat} {m : Int} (hl : ps.length = n) (h : k < n) : ((tonsL ps m).map iv)[k]? = some (.int .i64 (b2i (tonI (fth ps) n m k))) := by
  subst hl
  simp [tonsL, h, iv]
def RetIS (w : World) (ys : List Int) (e : Ending) (w' : World) : Prop :=
  ∃ (A : Option Addr) (n c : Nat), n = ys.length ∧ e = .returned (.slice A n c) ∧ Ow w' w.heap.size 3 (.slice A n c) n (ys.map iv) ∧ Below w.heap.size w w'
theorem RetIS.empty {w w' : World} {c g : Nat} (ho : Ow w' w.heap.size 3 (.slice (some ⟨g, 0, none⟩) 0 c) 0 []) (h : Below w.heap.size w w') : RetIS w [] (.returned (.slice (some ⟨g, 0, none⟩) 0 c)) w' := ⟨_, _, _, rfl, rfl, ho, h⟩
/-- What both functions hand back. -/
def tonsO (f : C → Nat) (xs : List C) (m : Int) : List Int := match transF xs with
  | none => []
  | some l => if 0 ≤ m ∧ m ≤ 1000 then tonsL (pwL f l) m else []
theorem pwL_len (f : C → Nat) (l : List C) : (pwL f l).length = l.length := by simp [pwL]
theorem fth_pwL {f : C → Nat} {l : List C} {k : Nat} (h : k < l.length) : fth (pwL f l) k = f (nth l k) := by
  unfold fth pwL
  rw [List.getD_eq_getElem?_getD, List.getElem?_map, List.getElem?_eq_getElem h, nth_eq h]; rfl
theorem tonsO_same {xs : List C} {m : Int} (hg : Good xs) : tonsO pwS xs m = tonsO pwI xs m := by
  unfold tonsO
  cases ht : transF xs with
  | none => rfl
  | some l =>
    have hsz : sizB xs = true := by
      cases hs : sizB xs
      · rw [transF_no hs] at ht; cases ht
      · rfl
    obtain ⟨_, l', e', hl2, hmd⟩ := hg hsz
    rw [ht] at e'
    injection e' with e'
    subst e'
    obtain ⟨s1, s2, s3, s4, s5⟩ := siz_parts hsz
    simp only
    split
    · rename_i hm
      unfold tonsL
      rw [pwL_len, pwL_len]
      refine List.map_congr_left fun k hk => ?_
      have hkl := List.mem_range.1 hk
      rw [tonI_same (ps := fth (pwL pwS l)) (qs := fth (pwL pwI l)) (by omega) (fun i hi => by rw [fth_pwL hi]; exact (pwS_spec (hmd i (by omega)).1).2.2.1) (fun i hi => by rw [fth_pwL hi]; exact (pwI_spec (hmd i (by omega)).1).2.1) (fun i hi => by rw [fth_pwL hi, fth_pwL hi]; exact (pwS_spec (hmd i (by omega)).1).2.2.2) hkl hm.1 hm.2]
    · rfl

set_option maxHeartbeats 2000000 in
set_option maxRecDepth 100000 in
theorem iTones (A : Option Addr) (n c : Nat) (xs : List C) (m : Int) (w : World) (hn : n ≤ 1048576) (hx : Cs w A n xs) (hg : Good xs) :
    Calls Tryz.prog 98 #[.slice A n c, .int .i64 m] w (RetIS w (tonsO pwI xs m)) := by
  have HP : Hid (∀ w, Cs w A n xs → Calls Tryz.prog 124 #[.slice A n c] w (RetF w (pwL pwI ((transF xs).getD [])) (transF xs).isSome)) := fun w h => iPowers A n c xs w hn h hg
  cases ht : transF xs with
  | none =>
    have HN : Hid (tonsO pwI xs m = []) := by show _ = _; unfold tonsO; rw [ht]
    rw [ht] at HP
    clear ht hg
    go_enter Tryz.func98, Tryz.ntmps98
    go_wp2_with fail
    refine (HP.out w hx).mono ?_
    rintro e w1 ⟨A1, c1, rfl, ho1, hb1⟩
    simp only [Option.isSome_none]
    go_wp2_with fail
    go_ret
    rw [HN.out]
    exact ⟨_, _, _, rfl, rfl, Ow.nil_ _ _ _, hb1⟩
  | some l =>
    have hsz : sizB xs = true := by
      cases hs : sizB xs
      · rw [transF_no hs] at ht; cases ht
      · rfl
    obtain ⟨_, l', e', hl2, hmd⟩ := hg hsz
    rw [ht] at e'
    injection e' with e'
    subst e'
    obtain ⟨s1, s2, s3, s4, s5⟩ := siz_parts hsz
    have hPW : ∀ i, i < l.length → PwOk (fth (pwL pwI l) i) := fun i hi => by rw [fth_pwL hi]; exact (pwI_spec (hmd i (by omega)).1).2.1
    by_cases hm : 0 ≤ m ∧ m ≤ 1000
    case neg =>
      have HN : Hid (tonsO pwI xs m = []) := by show _ = _; unfold tonsO; rw [ht]; exact if_neg hm
      have key : m < 0 ∨ (0 ≤ m ∧ 1000 < m) := by omega
      rw [ht] at HP
      clear ht hg hmd hm hPW s1 s2 s3 s4 s5 hl2 hsz
      rcases key with h0 | ⟨h0, h1⟩
      all_goals
        go_enter Tryz.func98, Tryz.ntmps98
        go_wp2_with fail
        refine (HP.out w hx).mono ?_
        rintro e w1 ⟨A1, c1, rfl, ho1, hb1⟩
        simp only [Option.isSome_some]
        go_wp2_with fail
        go_ret
        rw [HN.out]
        exact ⟨_, _, _, rfl, rfl, Ow.nil_ _ _ _, hb1⟩
    obtain ⟨m0, m1⟩ := hm
    have HY : Hid (tonsO pwI xs m = tonsL (pwL pwI l) m) := by show _ = _; unfold tonsO; rw [ht]; exact if_pos ⟨m0, m1⟩
    rw [ht] at HP
    obtain ⟨N, hN⟩ : ∃ N, N = l.length := ⟨_, rfl⟩
    have h16 : N ≤ 16 := by omega
    rw [← hN] at hPW
    obtain ⟨ps, hps⟩ : ∃ ps, ps = pwL pwI l := ⟨_, rfl⟩
    have hpl : ps.length = N := by rw [hps, pwL_len, hN]
    have HPP : Hid (∀ w, Cs w A n xs → Calls Tryz.prog 124 #[.slice A n c] w (RetF w ps true)) := by
      rw [hps]
      exact HP.out
    rw [← hps] at HY hPW
    have HPW := Lib.hid hPW
    have HPL := Lib.hid hpl
    have hS := sm_274 h16 hPW
    have qT := fun w => run_float_arith (P := Tryz.prog) w .mul 120 .f64 _ _ _ (tw_spec hS.1 hS.2.1 hS.2.2 m0 m1).1
    have HM : Hid (∀ i, i < N → floatBits .mul .f64 (fth ps i) 4652007308841189376 = some (mw (fth ps i))) := fun i hi => (mw_spec (hPW i hi)).1
    have HTL : Hid (((tonsL ps m).map iv).length = N) := by show _ = _; rw [List.length_map, tonsL_len]; exact hpl
    clear ht hg hmd hPW s1 s2 s3 s4 s5 hl2 hsz hps hN HP hS hpl
    go_enter Tryz.func98, Tryz.ntmps98
    go_wp2_with fail
    refine (HPP.out w hx).mono ?_
    rintro e w1 ⟨A1, c1, rfl, ho1, hb1⟩
    rw [HPL.out] at ho1 ⊢
    have HX1 : Hid (Sl w1 A1 N (ps.map fv)) := ho1.sl
    have HB1 := Lib.hid hb1
    clear ho1 hb1 hx
    go_wp2_with fail
    refine (iSumAll A1 N c1 ps w1 h16 HX1.out HPW.out).mono ?_
    rintro e w2 ⟨rfl, k2, hw2⟩
    have HX2 : Hid (Sl w2 A1 N (ps.map fv)) := by rw [hw2]; exact HX1.out.drewN k2
    have HB2 : Hid (Below w.heap.size w w2) := by rw [hw2]; exact below_drewN HB1.out k2
    clear hw2
    have HTI : Hid (∀ k, k < N → ∀ b, tonI (fth ps) N m k = b → (FloatKind.f64.format.order (mw (fth ps k)) (tw (smT (fth ps) N) m) == some .gt) = b) := fun k hk b hb => hb
    generalize tw (smT (fth ps) N) m = tt at *
    go_wp2_with (at_make; refine wl_make (w0 := w2) rfl (.tmp 32) (.tmp 32) 92 rfl Tryz.eI .i64 .i64 N _ _ rfl rfl rfl rfl (by omega) (by unfold maxLen; omega) (Below.refl _ _) ?_; intro w3 hown hb3 _)
    have HO3 : Hid (Ow w3 w2.heap.size 3 (.slice (some ⟨w2.heap.size, 0, none⟩) N N) N (fill ((tonsL ps m).map iv) N 0 (.int .i64 0))) := by
      show Ow _ _ _ _ _ _
      rw [fill_zero]
      exact hown
    have HB3 := Lib.hid hb3
    clear hown hb3
    go_loopw [36] (fun i wr => ∃ k : Nat, k ≤ N ∧ i = .int .i64 k ∧ Ow wr w2.heap.size 3 (.slice (some ⟨w2.heap.size, 0, none⟩) N N) N (fill ((tonsL ps m).map iv) N k (.int .i64 0)) ∧ Below w2.heap.size w2 wr) (fun i _ => N - (intOf i).toNat)
    case atStart => exact ⟨0, by omega, rfl, HO3.out, HB3.out⟩
    case round =>
      obtain ⟨k, hk, rfl, ho, hb⟩ := hrel
      have HO := Lib.hid ho
      have HB := Lib.hid hb
      clear ho
      by_cases hlt : k < N
      · obtain ⟨b, o, rfl, hbl, hc⟩ := HX2.out.flt_at hlt
        have hck : wr.cell? ⟨b, o + k, none⟩ = some (.float .f64 (fth ps k)) := (hb.cell (p := ⟨b, o + k, none⟩) hbl).trans (hc k hlt)
        have q1 := fun w => run_float_arith (P := Tryz.prog) w .mul 120 .f64 _ _ _ (HM.out k hlt)
        have HGT := Lib.hid (tonsL_get (ps := ps) (m := m) HPL.out hlt)
        obtain ⟨g, hg, hge, hgl, hcell, hfr, hst⟩ := Ow.at_ HO.out hlt
        injection hg with hg
        injection hg with hg
        subst hg
        have hck2 : wr.cell? ⟨w2.heap.size, k, none⟩ = some (.int .i64 0) := (hcell k hlt).trans (fill_get HTL.out hlt _)
        have hfr2 := hfr k
        have HST := Lib.hid hst
        clear hcell hfr hst hb hc
        cases hti : tonI (fth ps) N m k
        · have o1 := HTI.out k hlt false hti
          have HS : Hid (Ow wr w2.heap.size 3 (.slice (some ⟨w2.heap.size, 0, none⟩) N N) N (fill ((tonsL ps m).map iv) N (k + 1) (.int .i64 0))) := by
            have h2 := HGT.out
            rw [hti] at h2
            have := fill_set HTL.out hlt (.int .i64 0) _ h2
            have e3 : (fill ((tonsL ps m).map iv) N k (.int .i64 0)).set k (.int .i64 (b2i false)) = fill ((tonsL ps m).map iv) N k (.int .i64 0) := by
              refine List.ext_getElem? fun j => ?_
              rw [List.getElem?_set]
              split
              · rename_i hkj
                subst hkj
                have h0 := fill_get HTL.out hlt (.int .i64 0)
                rw [h0]
                have hlen : k < (fill ((tonsL ps m).map iv) N k (.int .i64 0)).length := (List.getElem?_eq_some_iff.1 h0).1
                rw [if_pos hlen]; rfl
              · rfl
            rw [e3] at this
            show Ow _ _ _ _ _ _
            rw [← this]; exact HO.out
          clear hti
          go_wp2_with fail
          go_roundw
          case rel => exact ⟨k + 1, by omega, by go_num, HS.out, HB.out⟩
          case measure => simp [intOf]; omega
        · have o1 := HTI.out k hlt true hti
          have HS : Hid (Ow (wr.setCell ⟨w2.heap.size, k, none⟩ (.int .i64 1)) w2.heap.size 3 (.slice (some ⟨w2.heap.size, 0, none⟩) N N) N (fill ((tonsL ps m).map iv) N (k + 1) (.int .i64 0))) := by
            have h2 := HGT.out
            rw [hti] at h2
            have h3 := HST.out k (.int .i64 1)
            have := fill_set HTL.out hlt (.int .i64 0) (.int .i64 1) h2
            rw [this] at h3
            exact h3
          clear hti
          go_wp2_with fail
          go_roundw
          case rel => exact ⟨k + 1, by omega, by go_num, HS.out, HB.out.setCell (Nat.le_refl _) _⟩
          case measure => simp [intOf]; omega
      · obtain rfl : k = N := by omega
        have HR : Hid (RetIS w (tonsL ps m) (.returned (.slice (some ⟨w2.heap.size, 0, none⟩) k k)) wr) := by
          have h1 := HO.out
          rw [fill_full HTL.out] at h1
          exact ⟨_, _, _, by rw [tonsL_len]; exact HPL.out.symm, rfl, h1.mono HB2.out.size, HB2.out.trans (HB.out.mono HB2.out.size)⟩
        clear hb
        go_wp2_with fail
        go_ret
        rw [HY.out]
        exact HR.out
end Go.Proofs.YtnomlkkhkacajaaGreatDoor
namespace Go.Proofs.YtnomlkkhkacajaaGreatDoor
open Go.RowKit

/-- The steps that are drawn. -/
def stepL (x : Int) : Array Value := #[.int .i64 1, .int .i64 10, .int .i64 250, .int .i64 1000, .int .i64 333, .int .i64 0, .int .i64 10001, .int .i64 x]
def stepV (x : Int) (j : Nat) : Int := inth [1, 10, 250, 1000, 333, 0, 10001, x] j
theorem stepL_get (x : Int) (j : Nat) (h : j < 8) : (stepL x)[j]? = some (.int .i64 (stepV x j)) := by
  have : j = 0 ∨ j = 1 ∨ j = 2 ∨ j = 3 ∨ j = 4 ∨ j = 5 ∨ j = 6 ∨ j = 7 := by omega
  rcases this with rfl | rfl | rfl | rfl | rfl | rfl | rfl | rfl <;> rfl
theorem step_cell {w w2 : World} {g : Nat} {x : Int} (h : Pk g (w.alloc (.cells #[.int .i64 1, .int .i64 10, .int .i64 250, .int .i64 1000, .int .i64 333, .int .i64 0, .int .i64 10001, .int .i64 x] 3)) w2) (hg : g < w.heap.size) {j : Nat} (hj : j < 8) :
    w2.cell? ⟨w.heap.size, j, none⟩ = some (.int .i64 (stepV x j)) := lit_cell (stepL x) 3 h hg (stepL_get x j hj)
theorem step_cell' (w : World) (x : Int) (j : Nat) (hj : j < 8) :
    (w.alloc (.cells #[.int .i64 1, .int .i64 10, .int .i64 250, .int .i64 1000, .int .i64 333, .int .i64 0, .int .i64 10001, .int .i64 x] 3)).cell? ⟨w.heap.size, j, none⟩ = some (.int .i64 (stepV x j)) := by
  rw [World.cell?_alloc_at _ _ _ _ rfl]; exact stepL_get x j hj

def RetD (w : World) (e : Ending) (w' : World) : Prop :=
  ∃ (A : Option Addr) (m c : Nat) (l : List Int) (step : Int), e = .returned (.tuple #[.slice A m c, .int .i64 step]) ∧ Ow w' w.heap.size 3 (.slice A m c) m (l.map iv) ∧ m ≤ 40 ∧ Below w.heap.size w w'

end Go.Proofs.YtnomlkkhkacajaaGreatDoor
namespace Go.Proofs.YtnomlkkhkacajaaGreatDoor
open Go.RowKit

section
variable {P : Program} {w : World} {ops : Array Oper} {rest : List Oper} {o : Oper} {a : Act} {Q : Exit → Act → World → Prop}
/-- append(out, us...), where all but the row itself stays. -/
theorem wl_appG (B : Nat) (us : List Value) (hB : B ≤ w.heap.size) (hgd : o.guard = none) (s x : Operand) (t : TypeId) (ho : o.op = .call { callee := .builtin .append, args := #[s, x], argTypes := #[t, t] })
    {E : TypeId} {z : Value} {bytes : Nat} (he : Elem P t E z bytes) (v : Value) (n : Nat) (vs : List Value) (hs : a.eval s = v) (hown : Ow w B E v n vs)
    (hx : a.eval x = .slice (some ⟨w.heap.size, 0, none⟩) us.length us.length) (hu : ∀ u ∈ us, u.oneCell' = true) (h63 : n + us.length ≤ maxLen) (hbytes : (n + us.length) * bytes ≤ 140737488355328)
    (h : ∀ v' w', Ow w' B E v' (n + us.length) (vs ++ us) → Below B w w' → (∀ b, b < w.heap.size → v.ownBlock ≠ some b → w'.heap[b]? = w.heap[b]?) → wpList P ops Q rest (a.put o.dst v') w') : wpList P ops Q (o :: rest) a (w.alloc (.cells us.toArray E)) := by
  obtain ⟨i, h2, h3, h4, h5⟩ := he.info
  subst h5
  refine wpList_append_own (w.alloc (.cells us.toArray E)) hgd s x t ho B E i z 1 i.bytes he.und h2 h3 h4 rfl (by rw [he.one]; rfl) (by decide) v n vs hs (World.ownsRow.alloc hown _) ⟨w.heap.size, 0, none⟩ us.length us.length us hx (by simp) ?_ hu h63 hbytes ?_ ?_
  · intro j u' hj
    have hj' := (List.getElem?_eq_some_iff.1 hj).1
    rw [add_none0, World.cell?_alloc_at _ _ _ _ rfl]
    simpa using hj
  · simp
    omega
  · intro v' w' h1 h2 _
    refine h v' w' h1 (((Below.refl B w).alloc hB _).grown h2 (by simp; omega) ?_) fun b hb hne => ?_
    · intro k hk
      exact (World.ownsRow.lt hown k hk).1
    · rw [h2.block b (by simp; omega) (fun e => hne e.symm)]
      exact (World.grownBy_alloc w _ none).block b hb (by simp)
end
theorem Sl.frame {w w' : World} {g o n : Nat} {vs : List Value} (h : Sl w (some ⟨g, o, none⟩) n vs) (hs : w.heap.size ≤ w'.heap.size) (hf : w'.heap[g]? = w.heap[g]?) : Sl w' (some ⟨g, o, none⟩) n vs := by
  refine ⟨h.1, ?_⟩
  rcases h.2 with h0 | ⟨b, o', h1, hb, hc⟩
  · exact .inl h0
  · injection h1 with h1
    injection h1 with h1 h2
    subst h1
    subst h2
    refine .inr ⟨_, _, rfl, by omega, fun k v hv => ?_⟩
    exact (World.cell?_of_block (a := ⟨g, o + k, none⟩) hf).trans (hc k v hv)
theorem own_ne {w : World} {B k N g : Nat} {v : Value} {ps : List Nat} {us : List Value} {x : Int} (ho : Ow w B 3 v (k + 1) us) (hi : us[0]? = some (.int .i64 x)) (hs : Sl w (some ⟨g, 0, none⟩) N (ps.map fv)) (hN : 1 ≤ N) : v.ownBlock ≠ some g := by
  intro he
  obtain ⟨A, c, rfl⟩ := ho.shape
  obtain ⟨g', rfl, _, _, hcell, _⟩ := Ow.at_ ho (k := 0) (by omega)
  have e : g' = g := by simpa [Value.ownBlock] using he
  subst e
  obtain ⟨b, o, h1, _, hc⟩ := hs.flt_at (k := 0) (by omega)
  injection h1 with h1
  injection h1 with h1 h2
  subst h1
  subst h2
  have e1 := (hcell 0 (by omega)).trans hi
  have e2 := hc 0 (by omega)
  rw [Nat.zero_add, e1] at e2
  cases e2

theorem tonsO_none {f : C → Nat} {xs : List C} {m : Int} (h : transF xs = none) : tonsO f xs m = [] := by unfold tonsO; rw [h]
theorem tonsO_out {f : C → Nat} {xs : List C} {m : Int} (h : ¬ (0 ≤ m ∧ m ≤ 1000)) : tonsO f xs m = [] := by
  unfold tonsO
  cases transF xs with
  | none => rfl
  | some l => exact if_neg h
theorem tonsO_in {f : C → Nat} {xs l : List C} {m : Int} (ht : transF xs = some l) (h : 0 ≤ m ∧ m ≤ 1000) : tonsO f xs m = tonsL (pwL f l) m := by
  unfold tonsO; rw [ht]; exact if_pos h

set_option maxHeartbeats 2000000 in
set_option maxRecDepth 100000 in
theorem sTones (A : Option Addr) (n c : Nat) (xs : List C) (m : Int) (w : World) (hn : n ≤ 1048576) (hx : Cs w A n xs) (hg : Good xs) :
    Calls Tryz.prog 61 #[.slice A n c, .int .i64 m] w (RetIS w (tonsO pwS xs m)) := by
  have HP : Hid (∀ w, Cs w A n xs → Calls Tryz.prog 100 #[.slice A n c] w (RetF w (pwL pwS ((transF xs).getD [])) (transF xs).isSome)) := fun w h => sPowers A n c xs w hn h hg
  cases ht : transF xs with
  | none =>
    have HN := Lib.hid (tonsO_none (f := pwS) (m := m) ht)
    rw [ht] at HP
    clear ht hg
    go_enter Tryz.func61, Tryz.ntmps61
    go_wp2_with fail
    refine (HP.out _ (hx.below (below_alloc _ _))).mono ?_
    rintro e w1 ⟨A1, c1, rfl, ho1, hb1⟩
    simp only [Option.isSome_none]
    have HR : Hid (RetIS w (tonsO pwS xs m) (.returned (.slice (some ⟨w.heap.size, 0, none⟩) 0 0)) w1) := by
      show RetIS _ _ _ _
      rw [HN.out]
      exact RetIS.empty ((Ow.empty w 3).below hb1) ((below_alloc _ _).trans (hb1.mono (below_alloc w _).size))
    clear ho1 hb1
    go_wp2_with fail
    go_ret
    exact HR.out
  | some l =>
    have hsz : sizB xs = true := by
      cases hs : sizB xs
      · rw [transF_no hs] at ht; cases ht
      · rfl
    obtain ⟨_, l', e', hl2, hmd⟩ := hg hsz
    rw [ht] at e'
    injection e' with e'
    subst e'
    obtain ⟨s1, s2, s3, s4, s5⟩ := siz_parts hsz
    have hPW : ∀ i, i < l.length → PwOk (fth (pwL pwS l) i) := fun i hi => by rw [fth_pwL hi]; exact (pwS_spec (hmd i (by omega)).1).2.2.1
    by_cases hm : 0 ≤ m ∧ m ≤ 1000
    case neg =>
      have HN := Lib.hid (tonsO_out (f := pwS) (xs := xs) hm)
      have hin : inB m 0 1000 = false := by rw [inB_false_iff]; omega
      rw [ht] at HP
      clear ht hg hmd hm hPW s1 s2 s3 s4 s5 hl2 hsz
      go_enter Tryz.func61, Tryz.ntmps61
      go_wp2_with fail
      refine (HP.out _ (hx.below (below_alloc _ _))).mono ?_
      rintro e w1 ⟨A1, c1, rfl, ho1, hb1⟩
      simp only [Option.isSome_some]
      have HR : Hid (RetIS w (tonsO pwS xs m) (.returned (.slice (some ⟨w.heap.size, 0, none⟩) 0 0)) w1) := by
        show RetIS _ _ _ _
        rw [HN.out]
        exact RetIS.empty ((Ow.empty w 3).below hb1) ((below_alloc _ _).trans (hb1.mono (below_alloc w _).size))
      clear ho1 hb1
      go_wp2_with fail
      refine (l1In_any _ _ _ _).mono ?_
      rintro e w2 ⟨rfl, hw2⟩
      obtain rfl := hw2.symm
      go_wp2_with fail
      go_ret
      exact HR.out
    have HY := Lib.hid (tonsO_in (f := pwS) ht hm)
    have hin : inB m 0 1000 = true := inB_true hm.1 hm.2
    obtain ⟨m0, m1⟩ := hm
    rw [ht] at HP
    obtain ⟨N, hN⟩ : ∃ N, N = l.length := ⟨_, rfl⟩
    have h16 : N ≤ 16 := by omega
    have h1N : 1 ≤ N := by omega
    rw [← hN] at hPW
    obtain ⟨ps, hps⟩ : ∃ ps, ps = pwL pwS l := ⟨_, rfl⟩
    have hpl : ps.length = N := by rw [hps, pwL_len, hN]
    have HPP : Hid (∀ w, Cs w A n xs → Calls Tryz.prog 100 #[.slice A n c] w (RetF w ps true)) := by
      rw [hps]
      exact HP.out
    rw [← hps] at HY hPW
    have HPL := Lib.hid hpl
    have hS := sm_274 h16 hPW
    have HSM : Hid (∀ i, i < N → floatBits .add .f64 (smT (fth ps) i) (fth ps i) = some (smT (fth ps) (i + 1))) := fun i hi => (smT_step (smT_ok h16 hPW i (by omega)).1 (hPW i hi).1).1
    have qT := fun w => run_float_arith (P := Tryz.prog) w .mul 120 .f64 _ _ _ (tw_spec hS.1 hS.2.1 hS.2.2 m0 m1).1
    have HM : Hid (∀ i, i < N → floatBits .mul .f64 (fth ps i) 4652007308841189376 = some (mw (fth ps i))) := fun i hi => (mw_spec (hPW i hi)).1
    have HTL : Hid (((tonsL ps m).map iv).length = N) := by show _ = _; rw [List.length_map, tonsL_len]; exact hpl
    clear ht hg hmd hPW s1 s2 s3 s4 s5 hl2 hsz hps hN HP hS hpl
    go_enter Tryz.func61, Tryz.ntmps61
    go_wp2_with fail
    refine (HPP.out _ (hx.below (below_alloc _ _))).mono ?_
    rintro e w1 ⟨A1, c1, rfl, ho1, hb1⟩
    rw [HPL.out] at ho1 ⊢
    obtain ⟨g, rfl, hge, hgl, _⟩ := Ow.at_ ho1 (k := 0) (by omega)
    have HX1 : Hid (Sl w1 (some ⟨g, 0, none⟩) N (ps.map fv)) := ho1.sl
    have HB1 : Hid (Below w.heap.size w w1) := (below_alloc _ _).trans (hb1.mono (below_alloc w _).size)
    have HOE : Hid (Ow w1 w.heap.size 3 (.slice (some ⟨w.heap.size, 0, none⟩) 0 0) 0 (((tonsL ps m).map iv).take 0)) := (Ow.empty w 3).below hb1
    have HGN : Hid ((Value.slice (some ⟨w.heap.size, 0, none⟩) 0 0).ownBlock ≠ some g) := by
      show _ ≠ _
      have : w.heap.size < g := by have h1 := hge; simp at h1; omega
      simp [Value.ownBlock]; omega
    clear ho1 hb1 hx hge hgl
    go_wp2_with fail
    refine (l1In_any _ _ _ _).mono ?_
    rintro e w2 ⟨rfl, hw2⟩
    obtain rfl := hw2.symm
    go_wp2_with fail
    go_loopw [8, 9] (fun s i wr => ∃ k : Nat, k ≤ N ∧ i = .int .i64 k ∧ s = .float .f64 (smT (fth ps) k) ∧ ∃ mm, wr = w1.drewN mm) (fun _ i _ => N - (intOf i).toNat)
    case atStart => exact ⟨0, by omega, rfl, rfl, 0, rfl⟩
    case round =>
      obtain ⟨k, hk, rfl, rfl, mm, rfl⟩ := hrel
      by_cases hlt : k < N
      · obtain ⟨b, o, hbo, hb, hc⟩ := HX1.out.flt_at hlt
        injection hbo with hbo
        injection hbo with hbo1 hbo2
        subst hbo1
        subst hbo2
        have hck : (w1.drewN mm).cell? ⟨g, k, none⟩ = some (.float .f64 (fth ps k)) := by have := hc k hlt; rw [Nat.zero_add] at this; exact this
        have q1 := fun w => run_float_arith (P := Tryz.prog) w .add 120 .f64 _ _ _ (HSM.out k hlt)
        clear hc
        go_wp2_with fail
        go_roundw
        case rel => exact ⟨k + 1, by omega, by go_num, rfl, mm, rfl⟩
        case measure => simp [intOf]; omega
      · obtain rfl : k = N := by omega
        have HTI : Hid (∀ j, j < k → ∀ b, tonI (fth ps) k m j = b → (FloatKind.f64.format.order (mw (fth ps j)) (tw (smT (fth ps) k) m) == some .gt) = b) := fun j hj b hb => hb
        have HX2 : Hid (Sl (w1.drewN mm) (some ⟨g, 0, none⟩) k (ps.map fv)) := HX1.out.drewN mm
        have HB2 : Hid (Below w.heap.size w (w1.drewN mm)) := below_drewN HB1.out mm
        have HO2 : Hid (Ow (w1.drewN mm) w.heap.size 3 (.slice (some ⟨w.heap.size, 0, none⟩) 0 0) 0 (((tonsL ps m).map iv).take 0)) := HOE.out.drewN mm
        generalize tw (smT (fth ps) k) m = tt at *
        generalize smT (fth ps) k = ss at *
        go_wp2_with fail
        go_loopw [5, 10] (fun v i wr => ∃ j : Nat, j ≤ k ∧ i = .int .i64 j ∧ Ow wr w.heap.size 3 v j (((tonsL ps m).map iv).take j) ∧ Below w.heap.size w wr ∧ Sl wr (some ⟨g, 0, none⟩) k (ps.map fv) ∧ v.ownBlock ≠ some g) (fun _ i _ => k - (intOf i).toNat)
        case atStart => exact ⟨0, by omega, rfl, HO2.out, HB2.out, HX2.out, HGN.out⟩
        case round =>
          obtain ⟨j, hj, rfl, ho, hb, hs, hne⟩ := hrel
          have HO := Lib.hid ho
          have HB := Lib.hid hb
          have HS := Lib.hid hs
          have HNE := Lib.hid hne
          clear ho hne
          by_cases hlt2 : j < k
          · obtain ⟨b, o, hbo, hbl, hc⟩ := hs.flt_at hlt2
            injection hbo with hbo
            injection hbo with hbo1 hbo2
            subst hbo1
            subst hbo2
            have hck : wr.cell? ⟨g, j, none⟩ = some (.float .f64 (fth ps j)) := by have := hc j hlt2; rw [Nat.zero_add] at this; exact this
            have q1 := fun w => run_float_arith (P := Tryz.prog) w .mul 120 .f64 _ _ _ (HM.out j hlt2)
            have HGT := Lib.hid (tonsL_get (ps := ps) (m := m) HPL.out hlt2)
            have hi0 := tonsL_get (ps := ps) (m := m) HPL.out (show 0 < k by omega)
            have HI0 : Hid ((((tonsL ps m).map iv).take (j + 1))[0]? = some (.int .i64 (b2i (tonI (fth ps) k m 0)))) := by
              show _ = _
              rw [List.getElem?_take, if_pos (by omega)]
              exact hi0
            have hsz := hb.size
            have HGL := Lib.hid hbl
            clear hc hb hs hi0 hbl
            cases hti : tonI (fth ps) k m j
            · have o1 := HTI.out j hlt2 false hti
              have HSN : Hid (((tonsL ps m).map iv).take j ++ [.int .i64 0] = ((tonsL ps m).map iv).take (j + 1)) := take_snoc' (by have h2 := HGT.out; rw [hti] at h2; exact h2)
              clear hti
              go_wp2_with (at_builtin; refine wl_appG w.heap.size [.int .i64 0] hsz rfl (.tmp 56) (.tmp 57) 92 rfl Tryz.eI u5 j _ rfl HO.out rfl (by simp [Value.oneCell']) (by simp [maxLen]; omega) (by simp; omega) ?_; intro v' w5 ho5 hb5 hf5; have HO5 := Lib.hid ho5; have HB5 := Lib.hid hb5; have HF5 := Lib.hid hf5; clear ho5 hb5 hf5)
              have HO6 : Hid (Ow w5 w.heap.size 3 v' (j + 1) (((tonsL ps m).map iv).take (j + 1))) := by show Ow _ _ _ _ _ _; rw [← HSN.out]; exact HO5.out
              have HS6 : Hid (Sl w5 (some ⟨g, 0, none⟩) k (ps.map fv)) := HS.out.frame HB5.out.size (HF5.out g HGL.out HNE.out)
              have HN6 : Hid (v'.ownBlock ≠ some g) := own_ne HO6.out HI0.out HS6.out h1N
              go_roundw
              case rel => exact ⟨j + 1, by omega, by go_num, HO6.out, HB.out.trans HB5.out, HS6.out, HN6.out⟩
              case measure => simp [intOf]; omega
            · have o1 := HTI.out j hlt2 true hti
              have HSN : Hid (((tonsL ps m).map iv).take j ++ [.int .i64 1] = ((tonsL ps m).map iv).take (j + 1)) := take_snoc' (by have h2 := HGT.out; rw [hti] at h2; exact h2)
              clear hti
              go_wp2_with (at_builtin; refine wl_appG w.heap.size [.int .i64 1] hsz rfl (.tmp 53) (.tmp 54) 92 rfl Tryz.eI u5 j _ rfl HO.out rfl (by simp [Value.oneCell']) (by simp [maxLen]; omega) (by simp; omega) ?_; intro v' w5 ho5 hb5 hf5; have HO5 := Lib.hid ho5; have HB5 := Lib.hid hb5; have HF5 := Lib.hid hf5; clear ho5 hb5 hf5)
              have HO6 : Hid (Ow w5 w.heap.size 3 v' (j + 1) (((tonsL ps m).map iv).take (j + 1))) := by show Ow _ _ _ _ _ _; rw [← HSN.out]; exact HO5.out
              have HS6 : Hid (Sl w5 (some ⟨g, 0, none⟩) k (ps.map fv)) := HS.out.frame HB5.out.size (HF5.out g HGL.out HNE.out)
              have HN6 : Hid (v'.ownBlock ≠ some g) := own_ne HO6.out HI0.out HS6.out h1N
              go_roundw
              case rel => exact ⟨j + 1, by omega, by go_num, HO6.out, HB.out.trans HB5.out, HS6.out, HN6.out⟩
              case measure => simp [intOf]; omega
          · obtain rfl : j = k := by omega
            obtain ⟨A2, c2, rfl⟩ := HO.out.shape
            have HR : Hid (RetIS w (tonsL ps m) (.returned (.slice A2 j c2)) wr) := by
              have h1 := HO.out
              rw [List.take_of_length_le (by rw [HTL.out]; omega)] at h1
              exact ⟨_, _, _, by rw [tonsL_len]; exact HPL.out.symm, rfl, h1, HB.out⟩
            clear hb hs
            go_wp2_with fail
            go_ret
            rw [HY.out]
            exact HR.out
end Go.Proofs.YtnomlkkhkacajaaGreatDoor
namespace Go.Proofs.YtnomlkkhkacajaaGreatDoor
open Go.RowKit

def gtB (x y : Nat) : Bool := FloatKind.f64.format.order x y == some .gt
/-- The number of the greatest one of words, the first one of the same. -/
def greT (ps : List Nat) : Nat → Nat
  | 0 => 0
  | k + 1 => if gtB (fth ps k) (fth ps (greT ps k)) then k else greT ps k
theorem greT_lt (ps : List Nat) {n : Nat} (h : 0 < n) : ∀ k, k ≤ n → greT ps k < n
  | 0, _ => h
  | k + 1, hk => by
    unfold greT
    split
    · omega
    · exact greT_lt ps h k (by omega)
theorem gtB_self {x : Nat} (h : Fin Ieee.double x) : gtB x x = false := by
  have e : Ieee.double.order x x = some .eq := order_self h
  unfold gtB
  show (Ieee.double.order x x == some .gt) = false
  rw [e]; rfl
theorem gtB_iff {x y : Nat} (hx : Fin Ieee.double x) (hy : Fin Ieee.double y) : gtB x y = true ↔ val Ieee.double y < val Ieee.double x := by
  obtain ⟨c, e, _, _, h⟩ := order_spec hx hy
  unfold gtB
  show (Ieee.double.order x y == some .gt) = true ↔ _
  rw [e, beq_iff_eq]
  exact ⟨fun q => h.1 (Option.some.inj q), fun q => congrArg some (h.2 q)⟩
theorem greT_one {ps : List Nat} (h : Fin Ieee.double (fth ps 0)) : greT ps 1 = 0 := by
  show (if gtB (fth ps 0) (fth ps 0) then 0 else greT ps 0) = 0
  rw [gtB_self h]; rfl
theorem greT_same {ps qs : List Nat} {n : Nat} (hn : 0 < n) (hp : ∀ i, i < n → Fin Ieee.double (fth ps i)) (hq : ∀ i, i < n → Fin Ieee.double (fth qs i)) (hv : ∀ i, i < n → val Ieee.double (fth ps i) = val Ieee.double (fth qs i)) : ∀ k, k ≤ n → greT ps k = greT qs k
  | 0, _ => rfl
  | k + 1, hk => by
    have ih := greT_same hn hp hq hv k (by omega)
    have hl := greT_lt qs hn k (by omega)
    have e : gtB (fth ps k) (fth ps (greT qs k)) = gtB (fth qs k) (fth qs (greT qs k)) := by
      have h1 := gtB_iff (hp k (by omega)) (hp _ hl)
      have h2 := gtB_iff (hq k (by omega)) (hq _ hl)
      rw [hv k (by omega), hv _ hl, ← h2] at h1
      exact Bool.eq_iff_iff.2 h1
    unfold greT
    rw [ih, e]
/-- The number of the greatest power, if the powers are told. -/
def greO (f : C → Nat) (xs : List C) : Option Nat := (transF xs).map fun l => greT (pwL f l) l.length
theorem greO_same {xs : List C} (hg : Good xs) : greO pwS xs = greO pwI xs := by
  unfold greO
  cases hs : sizB xs
  · rw [transF_no hs]; rfl
  · obtain ⟨_, l, hl, hll, hmd⟩ := hg hs
    rw [hl]
    have hlen := (siz_parts hs).2.2.2.2
    show some _ = some _
    congr 1
    refine greT_same (n := l.length) (by omega) (fun i hi => ?_) (fun i hi => ?_) (fun i hi => ?_) l.length (Nat.le_refl _)
    · rw [fth_pwL hi]; exact (pwS_spec (hmd i (by omega)).1).2.2.1.1
    · rw [fth_pwL hi]; exact (pwI_spec (hmd i (by omega)).1).2.1.1
    · rw [fth_pwL hi, fth_pwL hi]; exact (pwS_spec (hmd i (by omega)).1).2.2.2
/-- A number, and whether it is told. -/
def RetNO (w : World) (o : Option Nat) (e : Ending) (w' : World) : Prop := ∃ v : Int, e = .returned (.tuple #[.int .i64 v, .bool o.isSome]) ∧ (∀ k, o = some k → v = (k : Int)) ∧ -1 ≤ v ∧ v ≤ 16 ∧ Below w.heap.size w w'

set_option maxHeartbeats 2000000 in
set_option maxRecDepth 100000 in
theorem iGreatest (A : Option Addr) (n c : Nat) (xs : List C) (w : World) (hn : n ≤ 1048576) (hx : Cs w A n xs) (hg : Good xs) :
    Calls Tryz.prog 95 #[.slice A n c] w (RetNO w (greO pwI xs)) := by
  have HP : Hid (∀ w, Cs w A n xs → Calls Tryz.prog 124 #[.slice A n c] w (RetF w (pwL pwI ((transF xs).getD [])) (transF xs).isSome)) := fun w h => iPowers A n c xs w hn h hg
  cases ht : transF xs with
  | none =>
    have HN : Hid (greO pwI xs = none) := by show _ = _; unfold greO; rw [ht]; rfl
    rw [ht] at HP
    clear ht hg
    go_enter Tryz.func95, Tryz.ntmps95
    go_wp2_with fail
    refine (HP.out w hx).mono ?_
    rintro e w1 ⟨A1, c1, rfl, ho1, hb1⟩
    have HB1 := Lib.hid hb1
    clear ho1 hb1
    simp only [Option.isSome_none]
    go_wp2_with fail
    go_ret2
    rw [HN.out]
    exact ⟨_, rfl, (fun k h => by cases h), by omega, by omega, HB1.out⟩
  | some l =>
    have HN : Hid (greO pwI xs = some (greT (pwL pwI l) l.length)) := by show _ = _; unfold greO; rw [ht]; rfl
    have hs : sizB xs = true := by
      cases h : sizB xs
      · rw [transF_no h] at ht; cases ht
      · rfl
    obtain ⟨_, l', hl', hll, hmd⟩ := hg hs
    obtain rfl : l = l' := by rw [ht] at hl'; exact Option.some.inj hl'
    obtain ⟨_, _, _, s4, s5⟩ := siz_parts hs
    obtain ⟨N, hN⟩ : ∃ N, N = l.length := ⟨_, rfl⟩
    have h16 : N ≤ 16 := by omega
    have h0 : 0 < N := by omega
    obtain ⟨ps, hps⟩ : ∃ ps, ps = pwL pwI l := ⟨_, rfl⟩
    have hpl : ps.length = N := by rw [hps, pwL_len, hN]
    rw [ht] at HP
    have HPP : Hid (∀ w, Cs w A n xs → Calls Tryz.prog 124 #[.slice A n c] w (RetF w ps true)) := by rw [hps]; exact HP.out
    rw [← hps, ← hN] at HN
    have HPL := Lib.hid hpl
    clear ht hg hmd hs hl' hll s4 s5 hps hN HP hpl
    go_enter Tryz.func95, Tryz.ntmps95
    go_wp2_with fail
    refine (HPP.out w hx).mono ?_
    rintro e w1 ⟨A1, c1, rfl, ho1, hb1⟩
    rw [HPL.out] at ho1 ⊢
    have HX1 : Hid (Sl w1 A1 N (ps.map fv)) := ho1.sl
    have HB1 := Lib.hid hb1
    clear ho1 hb1 hx
    obtain ⟨b, o, rfl, hbl, hc⟩ := HX1.out.flt_at h0
    have HC := Lib.hid hc
    clear hc
    go_wp2_with fail
    go_loopw [6, 18] (fun v i wr => ∃ k : Nat, k ≤ N ∧ i = .int .i64 k ∧ v = .int .i64 (greT ps k) ∧ wr = w1) (fun _ i _ => N - (intOf i).toNat)
    case atStart => first | exact ⟨0, by omega, rfl, rfl, rfl⟩ | ((repeat apply Exists.intro); exact ⟨by omega, rfl, rfl, rfl⟩)
    case round =>
      obtain ⟨k, hk, rfl, rfl, rfl⟩ := hrel
      obtain ⟨g, hge⟩ : ∃ g, g = greT ps k := ⟨_, rfl⟩
      have hgl : g < N := by rw [hge]; exact greT_lt ps h0 k hk
      rw [← hge]
      by_cases hlt : k < N
      · have hck := HC.out k hlt
        have hcg := HC.out g hgl
        have hgi : (g : Int) < (N : Int) := by omega
        cases hgt : gtB (fth ps k) (fth ps g)
        · have HS : Hid (greT ps (k + 1) = g) := by show (if gtB (fth ps k) (fth ps (greT ps k)) then k else greT ps k) = g; rw [← hge, hgt]; rfl
          have q1 : (FloatKind.f64.format.order (fth ps k) (fth ps g) == some .gt) = false := hgt
          clear hgt hge
          generalize fth ps k = u1 at *
          generalize fth ps g = u2 at *
          go_wp2_with fail
          go_roundw
          case rel => exact ⟨k + 1, by omega, by go_num, by rw [HS.out], trivial⟩
          case measure => simp [intOf]; omega
        · have HS : Hid (greT ps (k + 1) = k) := by show (if gtB (fth ps k) (fth ps (greT ps k)) then k else greT ps k) = k; rw [← hge, hgt]; rfl
          have q1 : (FloatKind.f64.format.order (fth ps k) (fth ps g) == some .gt) = true := hgt
          clear hgt hge
          generalize fth ps k = u1 at *
          generalize fth ps g = u2 at *
          go_wp2_with fail
          go_roundw
          case rel => exact ⟨k + 1, by omega, by go_num, by rw [HS.out], trivial⟩
          case measure => simp [intOf]; omega
      · obtain rfl : k = N := by omega
        have HGE := Lib.hid hge
        clear hge
        go_wp2_with fail
        go_ret2
        rw [HN.out]
        exact ⟨_, rfl, (fun j h => by rw [← Option.some.inj h, HGE.out]), by omega, by omega, HB1.out⟩

set_option maxHeartbeats 2000000 in
set_option maxRecDepth 100000 in
theorem sGreatest (A : Option Addr) (n c : Nat) (xs : List C) (w : World) (hn : n ≤ 1048576) (hx : Cs w A n xs) (hg : Good xs) :
    Calls Tryz.prog 55 #[.slice A n c] w (RetNO w (greO pwS xs)) := by
  have HP : Hid (∀ w, Cs w A n xs → Calls Tryz.prog 100 #[.slice A n c] w (RetF w (pwL pwS ((transF xs).getD [])) (transF xs).isSome)) := fun w h => sPowers A n c xs w hn h hg
  cases ht : transF xs with
  | none =>
    have HN : Hid (greO pwS xs = none) := by show _ = _; unfold greO; rw [ht]; rfl
    rw [ht] at HP
    clear ht hg
    go_enter Tryz.func55, Tryz.ntmps55
    go_wp2_with fail
    refine (HP.out w hx).mono ?_
    rintro e w1 ⟨A1, c1, rfl, ho1, hb1⟩
    have HB1 := Lib.hid hb1
    clear ho1 hb1
    simp only [Option.isSome_none]
    go_wp2_with fail
    go_ret2
    rw [HN.out]
    exact ⟨_, rfl, (fun k h => by cases h), by omega, by omega, HB1.out⟩
  | some l =>
    have HN : Hid (greO pwS xs = some (greT (pwL pwS l) l.length)) := by show _ = _; unfold greO; rw [ht]; rfl
    have hs : sizB xs = true := by
      cases h : sizB xs
      · rw [transF_no h] at ht; cases ht
      · rfl
    obtain ⟨_, l', hl', hll, hmd⟩ := hg hs
    obtain rfl : l = l' := by rw [ht] at hl'; exact Option.some.inj hl'
    obtain ⟨_, _, _, s4, s5⟩ := siz_parts hs
    obtain ⟨N, hN⟩ : ∃ N, N = l.length := ⟨_, rfl⟩
    have h16 : N ≤ 16 := by omega
    have h0 : 0 < N := by omega
    obtain ⟨ps, hps⟩ : ∃ ps, ps = pwL pwS l := ⟨_, rfl⟩
    have hpl : ps.length = N := by rw [hps, pwL_len, hN]
    have HF0 : Hid (greT ps 1 = 0) := greT_one (by rw [hps, fth_pwL (by omega)]; exact (pwS_spec (hmd 0 (by omega)).1).2.2.1.1)
    rw [ht] at HP
    have HPP : Hid (∀ w, Cs w A n xs → Calls Tryz.prog 100 #[.slice A n c] w (RetF w ps true)) := by rw [hps]; exact HP.out
    rw [← hps, ← hN] at HN
    have HPL := Lib.hid hpl
    clear ht hg hmd hs hl' hll s4 s5 hps hN HP hpl
    go_enter Tryz.func55, Tryz.ntmps55
    go_wp2_with fail
    refine (HPP.out w hx).mono ?_
    rintro e w1 ⟨A1, c1, rfl, ho1, hb1⟩
    rw [HPL.out] at ho1 ⊢
    have HX1 : Hid (Sl w1 A1 N (ps.map fv)) := ho1.sl
    have HB1 := Lib.hid hb1
    clear ho1 hb1 hx
    obtain ⟨b, o, rfl, hbl, hc⟩ := HX1.out.flt_at h0
    have HC := Lib.hid hc
    clear hc
    go_wp2_with fail
    go_loopw [6, 7] (fun v i wr => ∃ k : Nat, 1 ≤ k ∧ k ≤ N ∧ i = .int .i64 k ∧ v = .int .i64 (greT ps k) ∧ ∃ m, wr = w1.drewN m) (fun _ i _ => N - (intOf i).toNat)
    case atStart => first | exact ⟨1, by omega, by omega, rfl, by rw [HF0.out]; rfl, 0, rfl⟩ | ((repeat apply Exists.intro); exact ⟨by omega, by omega, rfl, by rw [HF0.out]; rfl, rfl⟩)
    case round =>
      obtain ⟨k, hk1, hk, rfl, rfl, m, rfl⟩ := hrel
      obtain ⟨g, hge⟩ : ∃ g, g = greT ps k := ⟨_, rfl⟩
      have hgl : g < N := by rw [hge]; exact greT_lt ps h0 k hk
      rw [← hge]
      by_cases hlt : k < N
      · have hck : (w1.drewN m).cell? ⟨b, o + k, none⟩ = some (.float .f64 (fth ps k)) := HC.out k hlt
        have hcg : (w1.drewN m).cell? ⟨b, o + g, none⟩ = some (.float .f64 (fth ps g)) := HC.out g hgl
        have hgi : (g : Int) < (N : Int) := by omega
        obtain ⟨wr, hwr⟩ : ∃ wr, wr = w1.drewN m := ⟨_, rfl⟩
        rw [← hwr] at hck hcg ⊢
        have HW := Lib.hid hwr
        clear hwr
        cases hgt : gtB (fth ps k) (fth ps g)
        · have HS : Hid (greT ps (k + 1) = g) := by show (if gtB (fth ps k) (fth ps (greT ps k)) then k else greT ps k) = g; rw [← hge, hgt]; rfl
          have q1 : (FloatKind.f64.format.order (fth ps k) (fth ps g) == some .gt) = false := hgt
          clear hgt hge
          generalize fth ps k = u1 at *
          generalize fth ps g = u2 at *
          go_wp2_with fail
          go_quiet (fail)
          go_wp2_with fail
          go_roundw
          case rel => exact ⟨k + 1, by omega, by omega, by go_num, by rw [HS.out], m + nq, by rw [HW.out, World.drewN_drewN]⟩
          case measure => simp [intOf]; omega
        · have HS : Hid (greT ps (k + 1) = k) := by show (if gtB (fth ps k) (fth ps (greT ps k)) then k else greT ps k) = k; rw [← hge, hgt]; rfl
          have q1 : (FloatKind.f64.format.order (fth ps k) (fth ps g) == some .gt) = true := hgt
          clear hgt hge
          generalize fth ps k = u1 at *
          generalize fth ps g = u2 at *
          go_wp2_with fail
          go_quiet (fail)
          go_wp2_with fail
          go_roundw
          case rel => exact ⟨k + 1, by omega, by omega, by go_num, by rw [HS.out], m + nq, by rw [HW.out, World.drewN_drewN]⟩
          case measure => simp [intOf]; omega
      · obtain rfl : k = N := by omega
        have HGE := Lib.hid hge
        clear hge
        go_wp2_with fail
        go_ret2
        rw [HN.out]
        exact ⟨_, rfl, (fun j h => by rw [← Option.some.inj h, HGE.out]), by omega, by omega, below_drewN HB1.out m⟩
end Go.Proofs.YtnomlkkhkacajaaGreatDoor
