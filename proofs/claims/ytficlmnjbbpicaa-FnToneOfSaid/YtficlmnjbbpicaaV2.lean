/- Powers of spectra: the program's function and the reference's. -/
import Derived.Test.YtficlmnjbbpicaaV1
import Derived.Test.YtficlmnjbbpicaaMg
import Derived.Test.YtficlmnjbbpicaaT5
namespace Go.Proofs.Ytficlmnjbbpicaa
open Go.RowKit

theorem Try.eF : Elem Try.prog 90 48 (.float .f64 0) 8 := Elem.mk' Try.underlying90 (by kernel_rfl) rfl
def fv (x : Nat) : Value := .float .f64 x
/-- The powers of numbers. -/
def pwL (f : C → Nat) (l : List C) : List Nat := l.map f
theorem pwL_get {f : C → Nat} {l : List C} {k : Nat} (h : k < l.length) : ((pwL f l).map fv)[k]? = some (fv (f (nth l k))) := by
  unfold pwL
  rw [List.getElem?_map, List.getElem?_map, List.getElem?_eq_getElem h, nth_eq h]; rfl
/-- A list of powers, and whether it is told. -/
def RetF (w : World) (ps : List Nat) (ok : Bool) (e : Ending) (w' : World) : Prop :=
  ∃ (A : Option Addr) (c : Nat), e = .returned (.tuple #[.slice A ps.length c, .bool ok]) ∧ Ow w' w.heap.size 48 (.slice A ps.length c) ps.length (ps.map fv) ∧ Below w.heap.size w w'
theorem conv64 (P : Program) {src dst : TypeId} (hs : (P.underlying src).isSome = true) (hd : P.underlying dst = some (.float .f64)) {x : Nat} (h : Fin Ieee.single x) (w : World) :
    (convert src dst (.float .f32 x)).run P w = .ok (.float .f64 (wide x)) w :=
  run_convert_float_float (w := w) src dst .f32 .f64 x (wide x) hs hd (conv_wide h)

theorem Ow.capV {w : World} {B n c : Nat} {E : TypeId} {A : Option Addr} {vs : List Value} (h : Ow w B E (.slice A n c) n vs) : n ≤ c := by
  rcases h.2 with ⟨hv, hn⟩ | ⟨g, cap, cur, hv, _, _, r⟩
  · omega
  · injection hv with _ _ h3
    subst h3
    exact r.1

set_option maxHeartbeats 2000000 in
set_option maxRecDepth 100000 in
theorem iPowers (A : Option Addr) (n c : Nat) (xs : List C) (w : World) (hn : n ≤ 1048576) (hx : Cs w A n xs) (hg : Good xs) :
    Calls Try.prog 97 #[.slice A n c] w (RetF w (pwL pwI ((transF xs).getD [])) (transF xs).isSome) := by
  have HT : Hid (∀ w, Cs w A n xs → Calls Try.prog 32 #[.slice A n c] w (RetO w (transF xs))) := fun w h => iTransform A n c xs w hn h fun hs => (hg hs).1
  cases ht : transF xs with
  | none =>
    rw [ht] at HT
    clear ht hg
    go_enter Try.func97, Try.ntmps97
    go_wp2_with fail
    refine (HT.out w hx).mono ?_
    rintro e w1 ⟨A1, m1, c1, rfl, ho1, hb1⟩
    simp only [Option.isSome_none]
    go_wp2_with fail
    go_ret2
    exact ⟨_, _, rfl, Ow.nil_ _ _ _, hb1⟩
  | some l =>
    rw [ht] at HT
    have hsz : sizB xs = true := by
      cases hs : sizB xs
      · rw [transF_no hs] at ht; cases ht
      · rfl
    obtain ⟨_, l', e', hl2, hmd⟩ := hg hsz
    rw [ht] at e'
    injection e' with e'
    subst e'
    obtain ⟨s1, s2, s3, s4, s5⟩ := siz_parts hsz
    have h16 : l.length ≤ 16 := by omega
    have HF : Hid (∀ i, i < l.length → finB (nth l i) = true) := fun i hi => (hmd i (by omega)).1
    clear ht hg hmd hl2 hsz s1 s2 s3 s4 s5
    obtain ⟨N, hN⟩ : ∃ N, N = l.length := ⟨_, rfl⟩
    have HN := Lib.hid hN
    rw [← hN] at h16
    clear hN
    go_enter Try.func97, Try.ntmps97
    go_wp2_with fail
    refine (HT.out w hx).mono ?_
    rintro e w1 ⟨A1, m1, c1, rfl, ho1, hb1⟩
    obtain rfl : m1 = N := by have h1 := ho1.len; rw [List.length_map] at h1; rw [HN.out]; exact h1.symm
    simp only [Option.isSome_some]
    have HX1 : Hid (Cs w1 A1 m1 l) := ho1.sl
    have HB1 := Lib.hid hb1
    clear ho1 hb1 hx
    go_wp2_with (at_make; refine wl_make (w0 := w1) rfl (.tmp 19) (.tmp 19) 90 rfl Try.eF .i64 .i64 m1 _ _ rfl rfl rfl rfl (by omega) (by unfold maxLen; omega) (Below.refl _ _) ?_; intro w2 hown hb2 _)
    have HO2 : Hid (Ow w2 w1.heap.size 48 (.slice (some ⟨w1.heap.size, 0, none⟩) m1 m1) m1 (fill ((pwL pwI l).map fv) m1 0 (.float .f64 0))) := by
      show Ow _ _ _ _ _ _
      rw [fill_zero]
      exact hown
    have HB2 := Lib.hid hb2
    have HPL : Hid (((pwL pwI l).map fv).length = m1) := by show _ = _; unfold pwL; rw [List.length_map, List.length_map]; exact HN.out.symm
    clear hown hb2
    go_loopw [23] (fun i wr => ∃ k : Nat, k ≤ m1 ∧ i = .int .i64 k ∧ Ow wr w1.heap.size 48 (.slice (some ⟨w1.heap.size, 0, none⟩) m1 m1) m1 (fill ((pwL pwI l).map fv) m1 k (.float .f64 0)) ∧ Below w1.heap.size w1 wr) (fun i _ => m1 - (intOf i).toNat)
    case atStart => exact ⟨0, by omega, rfl, HO2.out, HB2.out⟩
    case round =>
      obtain ⟨k, hk, rfl, ho, hb⟩ := hrel
      have HO := Lib.hid ho
      have HB := Lib.hid hb
      clear ho
      by_cases hlt : k < m1
      · obtain ⟨b, o, rfl, hbl, hc⟩ := HX1.out.at_ hlt
        have hck : wr.cell? ⟨b, o + k, none⟩ = some (cv (nth l k)) := (hb.cell (p := ⟨b, o + k, none⟩) hbl).trans (hc k hlt)
        have hkl : k < l.length := by rw [← HN.out]; exact hlt
        have hf := HF.out k hkl
        obtain ⟨f1, f2⟩ := finB_iff.1 hf
        obtain ⟨p1, p2, p3⟩ := pwI_spec hf
        have q1 := fun w => conv64 Try.prog (src := 46) (dst := 48) (by kernel_rfl) Try.underlying48 f1 w
        have q2 := fun w => conv64 Try.prog (src := 46) (dst := 48) (by kernel_rfl) Try.underlying48 f2 w
        have q3 := fun w => run_float_arith (P := Try.prog) w .mul 48 .f64 _ _ _ (m64_spec f1 f1).1
        have q4 := fun w => run_float_arith (P := Try.prog) w .mul 48 .f64 _ _ _ (m64_spec f2 f2).1
        have q5 := fun w => run_float_arith (P := Try.prog) w .add 48 .f64 _ _ _ p1
        obtain ⟨g, hg, hge, hgl, hcell, hfr, hst⟩ := Ow.at_ HO.out hlt
        injection hg with hg
        injection hg with hg
        subst hg
        have hck2 : wr.cell? ⟨w1.heap.size, k, none⟩ = some (.float .f64 0) := (hcell k hlt).trans (fill_get HPL.out hlt _)
        have hfr2 := hfr k
        have hst2 := hst k (fv (pwI (nth l k)))
        rw [fill_set HPL.out hlt _ _ (pwL_get hkl)] at hst2
        have HS := Lib.hid hst2
        clear hst2 hcell hfr hst hb hc f1 f2 hf p1 p2 p3
        generalize pwI (nth l k) = pw at *
        generalize m64 (nth l k).1 (nth l k).1 = ma at *
        generalize m64 (nth l k).2 (nth l k).2 = mb at *
        generalize nth l k = z at *
        unfold cv at hck
        unfold fv at HS
        go_wp2_with fail
        go_roundw
        case rel => exact ⟨k + 1, by omega, by go_num, HS.out, HB.out.setCell (Nat.le_refl _) _⟩
        case measure => simp [intOf]; omega
      · obtain rfl : k = m1 := by omega
        have HR : Hid (RetF w (pwL pwI l) true (.returned (.tuple #[.slice (some ⟨w1.heap.size, 0, none⟩) k k, .bool true])) wr) := by
          have h1 := HO.out
          rw [fill_full HPL.out] at h1
          have e : (pwL pwI l).length = k := by have := HPL.out; rw [List.length_map] at this; exact this
          exact ⟨_, _, by rw [e], by rw [e]; exact h1.mono HB1.out.size, HB1.out.trans (HB.out.mono HB1.out.size)⟩
        clear hb
        go_wp2_with fail
        go_ret2
        exact HR.out

set_option maxHeartbeats 2000000 in
set_option maxRecDepth 100000 in
theorem sEnergy1 (A : Option Addr) (c : Nat) (z : C) (w : World) (hx : Cs w A 1 [z]) (hf : finB z = true) :
    Calls Try.prog 113 #[.slice A 1 c] w fun e w' => e = .returned (.float .f64 (pwS z)) ∧ Dr w w' := by
  have HC : Hid (∀ w, Cs w A 1 [z] → Calls Try.prog 88 #[.slice A 1 c] w fun e w' => e = .returned (.bool true) ∧ Dr w w') := fun w h => by
    have := sSignalOk A 1 c [z] w (by omega) h
    have e : sigB [z] = true := by unfold sigB; simp [hf]
    rw [e] at this
    exact this
  obtain ⟨b, o, rfl, hbl, hc⟩ := hx.at_ (k := 0) (by omega)
  have hck : w.cell? ⟨b, o, none⟩ = some (cv z) := hc 0 (by omega)
  obtain ⟨f1, f2⟩ := finB_iff.1 hf
  obtain ⟨p1, p2, _, _⟩ := pwS_spec hf
  have q1 := fun w => conv64 Try.prog (src := 46) (dst := 48) (by kernel_rfl) Try.underlying48 f1 w
  have q2 := fun w => conv64 Try.prog (src := 46) (dst := 48) (by kernel_rfl) Try.underlying48 f2 w
  have q3 := fun w => run_float_arith (P := Try.prog) w .mul 48 .f64 _ _ _ (m64_spec f1 f1).1
  have q4 := fun w => run_float_arith (P := Try.prog) w .mul 48 .f64 _ _ _ (m64_spec f2 f2).1
  have q5 := fun w => run_float_arith (P := Try.prog) w .add 48 .f64 _ _ _ p1
  have q6 := fun w => run_float_arith (P := Try.prog) w .add 48 .f64 _ _ _ p2
  clear hc f1 f2 p1 p2 hf
  generalize pwS z = ps at *
  generalize pwA z = pa at *
  generalize m64 z.1 z.1 = ma at *
  generalize m64 z.2 z.2 = mb at *
  have HX := Lib.hid hx
  clear hx
  unfold cv at hck
  go_enter Try.func113, Try.ntmps113
  go_wp2_with fail
  refine (HC.out w HX.out).mono ?_
  rintro e w' ⟨rfl, m, rfl⟩
  have hckd : (w.drewN m).cell? ⟨b, o, none⟩ = some (.complex .f32 z.1 z.2) := hck
  go_wp2_with fail
  go_loopw [3, 4] (fun s i wr => ((s = .float .f64 0 ∧ i = .int .i64 0) ∨ (s = .float .f64 ps ∧ i = .int .i64 1)) ∧ wr = w.drewN m) (fun _ i _ => 1 - (intOf i).toNat)
  case atStart => exact ⟨.inl ⟨rfl, rfl⟩, rfl⟩
  case round =>
    obtain ⟨⟨rfl, rfl⟩ | ⟨rfl, rfl⟩, rfl⟩ := hrel
    · go_wp2_with fail
      go_roundw
      case rel => exact ⟨.inr ⟨rfl, rfl⟩, by first | trivial | rfl⟩
      case measure => simp [intOf]
    · go_wp2_with fail
      go_ret
      exact ⟨rfl, m, rfl⟩

theorem Cs.one {w : World} {g o n k : Nat} {xs : List C} (h : Cs w (some ⟨g, o, none⟩) n xs) (hk : k < n) : Cs w (some ⟨g, o + k, none⟩) 1 [nth xs k] := by
  have hl := h.len
  obtain ⟨b, o', h1, h2, h3⟩ := h.at_ hk
  injection h1 with h1
  injection h1 with h1 h4
  subst h1
  subst h4
  refine ⟨rfl, .inr ⟨g, o + k, rfl, h2, fun j v hv => ?_⟩⟩
  have hj : j = 0 := by have := (List.getElem?_eq_some_iff.1 hv).1; simp at this; exact this
  subst hj
  simp at hv
  rw [← hv]
  exact h3 k hk
set_option maxHeartbeats 2000000 in
set_option maxRecDepth 100000 in
theorem sPowers (A : Option Addr) (n c : Nat) (xs : List C) (w : World) (hn : n ≤ 1048576) (hx : Cs w A n xs) (hg : Good xs) :
    Calls Try.prog 99 #[.slice A n c] w (RetF w (pwL pwS ((transF xs).getD [])) (transF xs).isSome) := by
  have HT : Hid (∀ w, Cs w A n xs → Calls Try.prog 92 #[.slice A n c] w (RetO w (transF xs))) := fun w h => sTransform A n c xs w hn h fun hs => (hg hs).1
  cases ht : transF xs with
  | none =>
    rw [ht] at HT
    clear ht hg
    go_enter Try.func99, Try.ntmps99
    go_wp2_with fail
    refine (HT.out w hx).mono ?_
    rintro e w1 ⟨A1, m1, c1, rfl, ho1, hb1⟩
    obtain rfl : m1 = 0 := by have h1 := ho1.len; simpa using h1.symm
    simp only [Option.isSome_none]
    have HR : Hid (RetF w (pwL pwS []) false (.returned (.tuple #[.slice (some ⟨w1.heap.size, 0, none⟩) 0 0, .bool false])) (w1.alloc (.cells #[] 48))) :=
      ⟨_, _, rfl, (Ow.empty w1 48).mono hb1.size, hb1.alloc hb1.size _⟩
    clear ho1 hb1
    go_wp2_with fail
    go_loopw [6, 7] (fun v i wr => v = .slice (some ⟨w1.heap.size, 0, none⟩) 0 0 ∧ i = .int .i64 0 ∧ w1.alloc (.cells #[] 48) = wr) (fun _ i _ => (intOf i).toNat)
    case atStart => exact ⟨rfl, rfl, rfl⟩
    case round =>
      obtain ⟨rfl, rfl, rfl⟩ := hrel
      go_wp2_with fail
      go_ret2
      exact HR.out
  | some l =>
    rw [ht] at HT
    have hsz : sizB xs = true := by
      cases hs : sizB xs
      · rw [transF_no hs] at ht; cases ht
      · rfl
    obtain ⟨_, l', e', hl2, hmd⟩ := hg hsz
    rw [ht] at e'
    injection e' with e'
    subst e'
    obtain ⟨s1, s2, s3, s4, s5⟩ := siz_parts hsz
    have h16 : l.length ≤ 16 := by omega
    have h1n : 1 ≤ l.length := by omega
    have HF : Hid (∀ i, i < l.length → finB (nth l i) = true) := fun i hi => (hmd i (by omega)).1
    clear ht hg hmd hl2 hsz s1 s2 s3 s4 s5
    obtain ⟨N, hN⟩ : ∃ N, N = l.length := ⟨_, rfl⟩
    have HN := Lib.hid hN
    rw [← hN] at h16 h1n
    clear hN
    go_enter Try.func99, Try.ntmps99
    go_wp2_with fail
    refine (HT.out w hx).mono ?_
    rintro e w1 ⟨A1, m1, c1, rfl, ho1, hb1⟩
    obtain rfl : m1 = N := by have h1 := ho1.len; rw [List.length_map] at h1; rw [HN.out]; exact h1.symm
    have hcap := Ow.capV ho1
    obtain ⟨g, rfl, _⟩ := Ow.at_ ho1 (k := 0) (by omega)
    simp only [Option.isSome_some]
    have HX1 : Hid (Cs w1 (some ⟨g, 0, none⟩) m1 l) := ho1.sl
    have HB1 := Lib.hid hb1
    have HE : Hid (Ow (w1.alloc (.cells #[] 48)) w1.heap.size 48 (.slice (some ⟨w1.heap.size, 0, none⟩) 0 0) 0 (((pwL pwS l).map fv).take 0)) := Ow.empty w1 48
    have HBE : Hid (Below w1.heap.size w1 (w1.alloc (.cells #[] 48))) := below_alloc _ _
    have HPL : Hid (((pwL pwS l).map fv).length = m1) := by show _ = _; unfold pwL; rw [List.length_map, List.length_map]; exact HN.out.symm
    clear ho1 hb1 hx
    go_wp2_with fail
    go_loopw [6, 7] (fun v i wr => ∃ k : Nat, k ≤ m1 ∧ i = .int .i64 k ∧ Ow wr w1.heap.size 48 v k (((pwL pwS l).map fv).take k) ∧ Below w1.heap.size w1 wr) (fun _ i _ => m1 - (intOf i).toNat)
    case atStart => exact ⟨0, by omega, rfl, HE.out, HBE.out⟩
    case round =>
      obtain ⟨k, hk, rfl, ho, hb⟩ := hrel
      have HO := Lib.hid ho
      have HB := Lib.hid hb
      clear ho
      by_cases hlt : k < m1
      · have hkl : k < l.length := by rw [← HN.out]; exact hlt
        have HC1 : Hid (Cs wr (some ⟨g, k, none⟩) 1 [nth l k]) := by
          have := (HX1.out.below hb).one hlt
          rw [Nat.zero_add] at this
          exact this
        have hfin := HF.out k hkl
        have HEN : Hid (∀ c, Calls Try.prog 113 #[.slice (some ⟨g, k, none⟩) 1 c] wr fun e w' => e = .returned (.float .f64 (pwS (nth l k))) ∧ Dr wr w') := fun c => sEnergy1 _ c _ wr HC1.out hfin
        have HSN : Hid (((pwL pwS l).map fv).take k ++ [fv (pwS (nth l k))] = ((pwL pwS l).map fv).take (k + 1)) := take_snoc' (pwL_get hkl)
        have hkc : k + 1 ≤ c1 := by omega
        have hkc2 : k < c1 := by omega
        have e1 : k + 1 - k = 1 := by omega
        clear hb hfin
        generalize pwS (nth l k) = pw at *
        go_wp2_with fail
        refine (HEN.out _).mono ?_
        rintro e w4 ⟨rfl, mm, hw4⟩
        have HO4 : Hid (Ow w4 w1.heap.size 48 u6 k (((pwL pwS l).map fv).take k)) := by rw [hw4]; exact HO.out.drewN mm
        have HB4 : Hid (Below w1.heap.size w1 w4) := by rw [hw4]; exact below_drewN HB.out mm
        have hsz4 := HB4.out.size
        clear hw4
        go_wp2_with (at_builtin; refine wl_appB w1.heap.size [.float .f64 pw] hsz4 rfl (.tmp 23) (.tmp 30) 90 rfl Try.eF _ k _ rfl HO4.out rfl (by simp [Value.oneCell']) (by simp [maxLen]; omega) (by simp; omega) ?_; intro v' w5 ho5 hb5; have HO5 := Lib.hid ho5; have HB5 := Lib.hid hb5; clear ho5 hb5)
        go_roundw
        case rel => exact ⟨k + 1, by omega, by go_num, by rw [← HSN.out]; exact HO5.out, HB4.out.trans HB5.out⟩
        case measure => simp [intOf]; omega
      · obtain rfl : k = m1 := by omega
        obtain ⟨A2, c2, rfl⟩ := HO.out.shape
        have HR : Hid (RetF w (pwL pwS l) true (.returned (.tuple #[.slice A2 k c2, .bool true])) wr) := by
          have h1 := HO.out
          rw [List.take_of_length_le (by rw [HPL.out]; omega)] at h1
          have e : (pwL pwS l).length = k := by have := HPL.out; rw [List.length_map] at this; exact this
          exact ⟨_, _, by rw [e], by rw [e]; exact h1.mono HB1.out.size, HB1.out.trans (HB.out.mono HB1.out.size)⟩
        clear hb
        go_wp2_with fail
        go_ret2
        exact HR.out
end Go.Proofs.Ytficlmnjbbpicaa
