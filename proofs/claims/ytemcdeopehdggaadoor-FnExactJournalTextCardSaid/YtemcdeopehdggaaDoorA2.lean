/- Lists that are copied, compared, marked, and looked at again: what the laws' own helpers do. -/
import Derived.Test.YtemcdeopehdggaaDoorA1
namespace Go.Proofs.YtemcdeopehdggaaDoor
open Go.RowKit

theorem Tryd.eI : Elem Tryd.prog 66 3 (.int .i64 0) 8 := Elem.mk' Tryd.underlying66 (by kernel_rfl) rfl
theorem Tryd.eC : Elem Tryd.prog 22 35 (.complex .f32 0 0) 8 := Elem.mk' Tryd.underlying22 (by kernel_rfl) rfl

theorem one_div {x : Nat} (h : Fin Ieee.double x) : ∃ r, floatBits .quo .f64 4607182418800017408 x = some r := by
  obtain ⟨m, p, e, _⟩ := read_fin Ieee.double h
  have e1 : Ieee.double.read 4607182418800017408 = .number false 4503599627370496 (-52) := by decide
  show ∃ r, Option.map _ (Ieee.Datum.quotient _ (Ieee.double.read 4607182418800017408) (Ieee.double.read x)) = some r
  rw [e1, e]
  unfold Ieee.Datum.quotient
  by_cases h0 : m = 0
  · simp [h0]
  · simp [h0]
set_option maxHeartbeats 400000 in
theorem sameFloat_same (x : Nat) (w : World) (h : Fin Ieee.double x) :
    Calls Tryd.prog 83 #[.float .f64 x, .float .f64 x] w fun e w' => e = .returned (.bool true) ∧ w' = w := by
  have o1 : FloatKind.f64.format.order x x = some .eq := order_self h
  obtain ⟨r, hr⟩ := one_div h
  have q1 := fun w => run_float_arith (P := Tryd.prog) w .quo 70 .f64 4607182418800017408 x r hr
  clear hr h
  by_cases hz : (FloatKind.f64.format.order x 0 == some .eq) = true
  · go_enter Tryd.func83, Tryd.ntmps83
    go_wp2_with fail
    go_ret
    exact ⟨rfl, rfl⟩
  · have hz' : (FloatKind.f64.format.order x 0 == some .eq) = false := by simpa using hz
    clear hz
    go_enter Tryd.func83, Tryd.ntmps83
    go_wp2_with fail
    go_ret
    exact ⟨rfl, rfl⟩
set_option maxHeartbeats 400000 in
theorem sameComplex_same (x y : Nat) (w : World) (hx : Fin Ieee.double x) (hy : Fin Ieee.double y) :
    Calls Tryd.prog 51 #[.complex .f64 x y, .complex .f64 x y] w fun e w' => e = .returned (.bool true) ∧ w' = w := by
  go_enter Tryd.func51, Tryd.ntmps51
  go_wp2_with fail
  refine (sameFloat_same x _ hx).mono ?_
  rintro e w' ⟨rfl, rfl⟩
  go_wp2_with fail
  refine (sameFloat_same y _ hy).mono ?_
  rintro e w' ⟨rfl, rfl⟩
  go_wp2_with fail
  go_ret
  exact ⟨rfl, rfl⟩

/- Equal lists of finite numbers. -/
theorem finB_iff {z : C} : finB z = true ↔ Fin Ieee.single z.1 ∧ Fin Ieee.single z.2 := by simp [finB]
theorem all_fin_nth {xs : List C} {k : Nat} (h : xs.all finB = true) (hk : k < xs.length) : Fin Ieee.single (nth xs k).1 ∧ Fin Ieee.single (nth xs k).2 := by
  rw [nth_eq hk]
  exact finB_iff.1 (List.all_eq_true.1 h _ (List.getElem_mem hk))
set_option maxHeartbeats 400000 in
theorem eqC_same (A A' : Option Addr) (n c c' : Nat) (xs : List C) (w : World) (hn : n ≤ 1048576) (hx : Cs w A n xs) (hy : Cs w A' n xs) (hf : xs.all finB = true) :
    Calls Tryd.prog 15 #[.slice A n c, .slice A' n c'] w fun e w' => e = .returned (.bool true) ∧ Dr w w' := by
  have HL := Lib.hid hx.len
  have HF := Lib.hid hf
  clear hf
  go_enter Tryd.func15, Tryd.ntmps15
  go_wp2_with fail
  go_loopw [5] (fun i wr => ∃ k : Nat, k ≤ n ∧ i = .int .i64 k ∧ Dr w wr) (fun i _ => n - (intOf i).toNat)
  case atStart => exact ⟨0, by omega, rfl, Dr.refl _⟩
  case round =>
    obtain ⟨k, hk, rfl, hd⟩ := hrel
    have HD := Lib.hid hd
    by_cases hlt : k < n
    · obtain ⟨b, o, rfl, hb, hc⟩ := hx.at_ hlt
      obtain ⟨b', o', rfl, hb', hc'⟩ := hy.at_ hlt
      have c1 := (hd.cell _).trans (hc k hlt)
      have c2 := (hd.cell _).trans (hc' k hlt)
      have hff := all_fin_nth HF.out (show k < xs.length by rw [HL.out]; exact hlt)
      generalize nth xs k = z at c1 c2 hff
      obtain ⟨x, y⟩ := z
      unfold cv at c1 c2
      have q1 := fun w => run_convert_complex (P := Tryd.prog) w 35 69 .f32 .f64 x y (wide x) (wide y) (by kernel_rfl) Tryd.underlying69 (cconv_wide hff.1 hff.2)
      have f1 := (wide_spec hff.1).1
      have f2 := (wide_spec hff.2).1
      clear hc hc' hx hy hff hd
      change Fin Ieee.double (wide x) at f1
      change Fin Ieee.double (wide y) at f2
      go_wp2_with fail
      go_quiet ((go_at_call 51; exact Calls.quiet_of_same (sameComplex_same (wide x) (wide y) _ f1 f2)))
      go_wp2_with fail
      go_roundw
      case rel => exact ⟨k + 1, by omega, by go_num, HD.out.drewN _⟩
      case measure => simp [intOf]; omega
    · go_wp2_with fail
      go_ret
      exact ⟨rfl, HD.out⟩

/- Marks: complex64(complex(float64(k), 1)). -/
def mk1 (k : Nat) : C := (narrow (floatOfInt .f64 k), 1065353216)
def marks (k n : Nat) : List C := (List.range n).map fun j => mk1 (k + j)
theorem marks_len (k n : Nat) : (marks k n).length = n := by simp [marks]
theorem marks_get {k n j : Nat} (h : j < n) : ((marks k n).map cv)[j]? = some (cv (mk1 (k + j))) := by
  simp [marks, h]
theorem narrow_one : narrow 4607182418800017408 = 1065353216 := by decide
theorem mark_conv {k : Nat} (h : k ≤ 1048576) : cConvBits .f64 (floatOfInt .f64 k) 4607182418800017408 .f32 = some ((mk1 k).1, 1065353216) ∧ Fin Ieee.single (mk1 k).1 := by
  have h1 := int_whl (n := (k : Int)) (by omega)
  have h2 := narrow_whl h1 (by omega)
  have h3 : Fin Ieee.double 4607182418800017408 := by decide
  have h4 : Fin Ieee.single (narrow 4607182418800017408) := by rw [narrow_one]; decide
  have := cconv_narrow h1.1 h2.1 h3 h4
  rw [narrow_one] at this
  exact ⟨this, h2.1⟩
theorem over_set {L vs : List Value} {n k : Nat} (hL : L.length = n) (hv : vs.length = n) (hk : k < n) {u : Value} (hu : L[k]? = some u) :
    (L.take k ++ vs.drop k).set k u = L.take (k + 1) ++ vs.drop (k + 1) := by
  have hl : (L.take k).length = k := by simp; omega
  have hk2 : k < L.length := by omega
  rw [List.getElem?_eq_getElem hk2] at hu
  injection hu with hu
  rw [List.set_append_right _ _ (by omega), hl, Nat.sub_self, List.drop_eq_getElem_cons (show k < vs.length by omega), List.set_cons_zero, List.take_succ_eq_append_getElem hk2, hu, List.append_assoc]
  rfl
set_option maxHeartbeats 400000 in
theorem markC_any (A : Option Addr) (n c : Nat) (vs : List Value) (B : Nat) (q0 : Nat) (w : World) (hq0 : q0 + n ≤ 1048576) (hx : Ow w B 35 (.slice A n c) n vs) :
    Calls Tryd.prog 16 #[.slice A n c, .int .i64 q0] w fun e w' => e = .returned (.int .i64 ((q0 + n : Nat) : Int)) ∧ Ow w' B 35 (.slice A n c) n ((marks q0 n).map cv) ∧ Only w w' A := by
  have HV := Lib.hid hx.len
  have HM : Hid (((marks q0 n).map cv).length = n) := by show _ = _; simp [marks]
  go_enter Tryd.func16, Tryd.ntmps16
  go_wp2_with fail
  go_loopw [1, 5] (fun q i wr => ∃ k p : Nat, k ≤ n ∧ p = q0 + k ∧ i = .int .i64 k ∧ q = .int .i64 p ∧ Ow wr B 35 (.slice A n c) n (((marks q0 n).map cv).take k ++ vs.drop k) ∧ Only w wr A) (fun _ i _ => n - (intOf i).toNat)
  case atStart => exact ⟨0, q0, by omega, by omega, rfl, rfl, by simpa using hx, Only.refl _ _⟩
  case round =>
    obtain ⟨k, p, hk, hp, rfl, rfl, ho, hon⟩ := hrel
    have HP := Lib.hid hp
    have hpb : p ≤ 1048576 := by omega
    clear hp
    by_cases hlt : k < n
    · obtain ⟨g, rfl, hge, hgl, hcell, hfr, hst⟩ := ho.at_ hlt
      have HL := ho.len
      have hck : wr.cell? ⟨g, k, none⟩ = some ((((marks q0 n).map cv).take k ++ vs.drop k)[k]'(by omega)) := (hcell k hlt).trans (List.getElem?_eq_getElem _)
      generalize (((marks q0 n).map cv).take k ++ vs.drop k)[k]'(by omega) = u0 at hck
      have hfr2 := hfr k
      have hcv := (mark_conv hpb).1
      have q1 := fun w => run_convert_complex (P := Tryd.prog) w 69 35 .f64 .f32 (floatOfInt .f64 p) 4607182418800017408 (mk1 p).1 1065353216 (by kernel_rfl) Tryd.underlying35 hcv
      have hs2 := hst k (cv (mk1 p))
      rw [over_set HM.out HV.out hlt (by rw [HP.out]; exact marks_get hlt)] at hs2
      have HS := Lib.hid hs2
      have HO := Lib.hid hon
      clear hst hcell hfr hx HL hon ho hcv hs2
      go_wp2_with fail
      go_roundw
      case rel => exact ⟨k + 1, p + 1, by omega, by rw [HP.out]; omega, by go_num, by go_num, HS.out, HO.out.setCell _ _⟩
      case measure => simp [intOf]; omega
    · obtain rfl : k = n := by omega
      have HO := Lib.hid hon
      have HW := Lib.hid ho
      clear hon ho
      go_wp2_with fail
      go_ret
      refine ⟨ret_int (by have := HP.out; omega), ?_, HO.out⟩
      have := HW.out
      rw [List.take_of_length_le (by rw [HM.out]; omega), List.drop_of_length_le (by rw [HV.out]; omega), List.append_nil] at this
      exact this
set_option maxHeartbeats 400000 in
theorem heldC_any (A : Option Addr) (n c : Nat) (q0 : Nat) (w : World) (hq0 : q0 + n ≤ 1048576) (hx : Sl w A n ((marks q0 n).map cv)) :
    Calls Tryd.prog 17 #[.slice A n c, .int .i64 q0] w fun e w' => e = .returned (.int .i64 ((q0 + n : Nat) : Int)) ∧ Dr w w' := by
  go_enter Tryd.func17, Tryd.ntmps17
  go_wp2_with fail
  go_loopw [1, 5] (fun q i wr => ∃ k p : Nat, k ≤ n ∧ p = q0 + k ∧ i = .int .i64 k ∧ q = .int .i64 p ∧ Dr w wr) (fun _ i _ => n - (intOf i).toNat)
  case atStart => exact ⟨0, q0, by omega, by omega, rfl, rfl, Dr.refl _⟩
  case round =>
    obtain ⟨k, p, hk, hp, rfl, rfl, hd⟩ := hrel
    have HP := Lib.hid hp
    have HD := Lib.hid hd
    have hpb : p ≤ 1048576 := by omega
    clear hp
    by_cases hlt : k < n
    · obtain ⟨b, o, rfl, hb, hc⟩ := hx.at_ hlt
      have hck := (hd.cell _).trans (hc k _ (by rw [marks_get hlt, ← HP.out]))
      have hcv := (mark_conv hpb).1
      have q1 := fun w => run_convert_complex (P := Tryd.prog) w 69 35 .f64 .f32 (floatOfInt .f64 p) 4607182418800017408 (mk1 p).1 1065353216 (by kernel_rfl) Tryd.underlying35 hcv
      have o1 : FloatKind.f32.format.order (mk1 p).1 (mk1 p).1 = some .eq := order_self (mark_conv hpb).2
      have o2 : FloatKind.f32.format.order 1065353216 1065353216 = some .eq := order_self (by decide)
      have e1 : cv (mk1 p) = .complex .f32 (mk1 p).1 1065353216 := rfl
      rw [e1] at hck
      generalize (mk1 p).1 = mm at *
      clear hc hx hcv hd e1
      go_wp2_with fail
      go_roundw
      case rel => exact ⟨k + 1, p + 1, by omega, by rw [HP.out]; omega, by go_num, by go_num, HD.out⟩
      case measure => simp [intOf]; omega
    · obtain rfl : k = n := by omega
      go_wp2_with fail
      go_ret
      exact ⟨ret_int (by have := HP.out; omega), HD.out⟩
end Go.Proofs.YtemcdeopehdggaaDoor
