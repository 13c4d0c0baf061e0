/- Draws of a signal for a transform and of numbers. -/
import Derived.Test.YtficlmnjbbpicaaD10
namespace Go.Proofs.Ytficlmnjbbpicaa
open Go.RowKit

def RetDK (w : World) (e : Ending) (w' : World) : Prop :=
  ∃ (A : Option Addr) (m c : Nat) (xs : List C) (k : Int), e = .returned (.tuple #[.slice A m c, .int .i64 k]) ∧ Ow w' w.heap.size 45 (.slice A m c) m (xs.map cv) ∧ m ≤ 17 ∧ DrawnL xs ∧ Below w.heap.size w w'
set_option maxHeartbeats 1000000 in
theorem drawShiftedBy_any (A : Option Addr) (n c : Nat) (w : World) (hnc : n ≤ c) (hn : n ≤ 1048576) (h : Code8 w A n) :
    Calls Try.prog 51 #[.slice A n c] w (RetDK w) := by
  go_enter Try.func51, Try.ntmps51
  go_wp2_with fail
  refine (open_any A n c w hnc hn h).mono ?_
  rintro e w0 ⟨g, rfl, hg, hr0, hb0⟩
  go_wp2_with fail
  refine (sized_any g 0 9 w0 (by omega) (by omega) hr0).mono ?_
  rintro e w2 ⟨A2, m, c2, xs, rfl, ho, hl, hd, _, hr2, hp2⟩
  have h0 := ho.len
  rw [List.length_map] at h0
  have hm : m ≤ 17 := by omega
  have hg0 : g < w0.heap.size := hr0.lt
  have HO := Lib.hid ho
  have HD := Lib.hid hd
  have HP := Lib.hid hp2
  have HG := Lib.hid hg
  have HB := Lib.hid hb0
  clear ho hd hp2 hg hb0 h0 hl h hnc hr0
  go_wp2_with fail
  refine (pick_any g 120 ((m : Int) + 1) w2 (by omega) (by omega) hr2).mono ?_
  rintro e w3 ⟨v, rfl, ⟨v1, v2, _⟩, hr3, hp3⟩
  have v3 := v2 (by omega)
  have HP3 := Lib.hid hp3
  clear v2 hp3 hr2
  go_wp2_with fail
  refine (pick_any g 121 20 w3 (by omega) (by omega) hr3).mono ?_
  rintro e w4 ⟨u, rfl, ⟨u1, u2, _⟩, hr4, hp4⟩
  have u3 := u2 (by omega)
  have HP4 := Lib.hid hp4
  clear u2 hp4 hr3 hr4
  have HR : Hid (∀ k : Int, RetDK w (.returned (.tuple #[.slice A2 m c2, .int .i64 k])) w4) := fun k =>
    ⟨A2, m, c2, xs, k, rfl, (HO.out.pk (HP3.out.trans HP4.out) hg0).mono HB.out.size, hm, HD.out, HB.out.trans (((HP.out.trans HP3.out).trans HP4.out).below HG.out HB.out.size)⟩
  go_wp2_with fail
  go_ret2
  exact HR.out _
set_option maxHeartbeats 1000000 in
theorem drawWithoutTone_any (A : Option Addr) (n c : Nat) (w : World) (hnc : n ≤ c) (hn : n ≤ 1048576) (h : Code8 w A n) :
    Calls Try.prog 47 #[.slice A n c] w (RetDK w) := by
  go_enter Try.func47, Try.ntmps47
  go_wp2_with fail
  refine (drawShiftedBy_any A n c w hnc hn h).mono ?_
  rintro e w0 hr
  have HR := Lib.hid hr
  obtain ⟨A2, m, c2, xs, k, rfl, h1, h2, h3, h4⟩ := hr
  clear h1 h2 h3 h4
  go_wp2_with fail
  go_ret2
  exact HR.out
def RetDKK (w : World) (e : Ending) (w' : World) : Prop :=
  ∃ (A : Option Addr) (m c : Nat) (xs : List C) (a b : Int), e = .returned (.tuple #[.slice A m c, .int .i64 a, .int .i64 b]) ∧ Ow w' w.heap.size 45 (.slice A m c) m (xs.map cv) ∧ m ≤ 17 ∧ DrawnL xs ∧ Below w.heap.size w w'
set_option maxHeartbeats 1000000 in
theorem drawOnlyNumbers_any (A : Option Addr) (n c : Nat) (w : World) (hnc : n ≤ c) (hn : n ≤ 1048576) (h : Code8 w A n) :
    Calls Try.prog 58 #[.slice A n c] w (RetDKK w) := by
  go_enter Try.func58, Try.ntmps58
  go_wp2_with fail
  refine (open_any A n c w hnc hn h).mono ?_
  rintro e w0 ⟨g, rfl, hg, hr0, hb0⟩
  go_wp2_with fail
  refine (sized_any g 0 9 w0 (by omega) (by omega) hr0).mono ?_
  rintro e w2 ⟨A2, m, c2, xs, rfl, ho, hl, hd, _, hr2, hp2⟩
  have h0 := ho.len
  rw [List.length_map] at h0
  have hm : m ≤ 17 := by omega
  have hg0 : g < w0.heap.size := hr0.lt
  have HO := Lib.hid ho
  have HD := Lib.hid hd
  have HP := Lib.hid hp2
  have HG := Lib.hid hg
  have HB := Lib.hid hb0
  clear ho hd hp2 hg hb0 h0 hl h hnc hr0
  go_wp2_with fail
  refine (pick_any g 120 ((m : Int) + 1) w2 (by omega) (by omega) hr2).mono ?_
  rintro e w3 ⟨v, rfl, ⟨v1, v2, _⟩, hr3, hp3⟩
  have v3 := v2 (by omega)
  have HP3 := Lib.hid hp3
  clear v2 hp3 hr2
  go_wp2_with fail
  refine (pick_any g 121 20 w3 (by omega) (by omega) hr3).mono ?_
  rintro e w4 ⟨u, rfl, ⟨u1, u2, _⟩, hr4, hp4⟩
  have u3 := u2 (by omega)
  have HP4 := Lib.hid hp4
  clear u2 hp4 hr3
  go_wp2_with fail
  refine (pick_any g 122 ((m : Int) + 1) w4 (by omega) (by omega) hr4).mono ?_
  rintro e w5 ⟨t, rfl, ⟨t1, t2, _⟩, hr5, hp5⟩
  have HP5 := Lib.hid hp5
  clear t2 hp5 hr4 hr5
  have HR : Hid (∀ a b : Int, RetDKK w (.returned (.tuple #[.slice A2 m c2, .int .i64 a, .int .i64 b])) w5) := fun a b =>
    ⟨A2, m, c2, xs, a, b, rfl, (HO.out.pk ((HP3.out.trans HP4.out).trans HP5.out) hg0).mono HB.out.size, hm, HD.out, HB.out.trans ((((HP.out.trans HP3.out).trans HP4.out).trans HP5.out).below HG.out HB.out.size)⟩
  go_wp2_with fail
  go_ret3
  exact HR.out _ _
end Go.Proofs.Ytficlmnjbbpicaa
