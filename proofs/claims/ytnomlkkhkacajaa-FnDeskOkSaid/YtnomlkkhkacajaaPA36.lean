/- Texts on the way to a law (E9), each with its own remark. -/
import Derived.Test.YtnomlkkhkacajaaPA23
import Derived.Test.YtnomlkkhkacajaaPA24
import Derived.Test.YtnomlkkhkacajaaPA19
import Derived.Test.YtnomlkkhkacajaaPA11
import Derived.Test.YtnomlkkhkacajaaPA31
import Derived.Test.YtnomlkkhkacajaaPA32
import Derived.Test.YtnomlkkhkacajaaPA35
namespace Go.Proofs.Ytnomlkkhkacajaa
open Go.RowKit
open Go.Lib hiding intOf

/-- What a deed makes of a signal. -/
def madF (x : List C) (a : Dd) : Option (List C) :=
  if a.kind = 0 then (if a.num = 0 then (readSig a.text).map mils else none)
  else if a.kind = 1 then (if a.num = 0 ∧ a.text = [] then transF x else none)
  else if a.kind = 2 then (if a.num = 0 ∧ a.text = [] then backF x else none)
  else if a.kind = 3 then (if a.text = [] ∧ movF x a.num ≠ [] then some (movF x a.num) else none)
  else if a.kind = 4 then (if a.text = [] then shiF x a.num else none)
  else if a.kind = 5 then (if a.text = [] then winF x a.num else none)
  else none
theorem madF0 (x : List C) (t : Txt) : madF x ⟨0, 0, t⟩ = (readSig t).map mils := rfl
theorem madF0n (x : List C) {n : Int} (t : Txt) (h : ¬ n = 0) : madF x ⟨0, n, t⟩ = none := by unfold madF; rw [if_pos rfl, if_neg h]
theorem madF1 (x : List C) : madF x ⟨1, 0, []⟩ = transF x := rfl
theorem madF2 (x : List C) : madF x ⟨2, 0, []⟩ = backF x := rfl
theorem madF12 (x : List C) {k n : Int} {t : Txt} (hk : k = 1 ∨ k = 2) (h : ¬ (n = 0 ∧ t = [])) : madF x ⟨k, n, t⟩ = none := by
  rcases hk with rfl | rfl <;> (unfold madF; simp [h])
theorem madF3 (x : List C) (n : Int) (h : movF x n ≠ []) : madF x ⟨3, n, []⟩ = some (movF x n) := by unfold madF; simp [h]
theorem madF3n (x : List C) (n : Int) (h : movF x n = []) : madF x ⟨3, n, []⟩ = none := by unfold madF; simp [h]
theorem madF4 (x : List C) (n : Int) : madF x ⟨4, n, []⟩ = shiF x n := rfl
theorem madF5 (x : List C) (n : Int) : madF x ⟨5, n, []⟩ = winF x n := rfl
theorem madF35 (x : List C) {k : Int} (n : Int) {t : Txt} (hk : k = 3 ∨ k = 4 ∨ k = 5) (h : ¬ t = []) : madF x ⟨k, n, t⟩ = none := by
  rcases hk with rfl | rfl | rfl <;> (unfold madF; simp [h])
theorem madFo (x : List C) {k : Int} (n : Int) (t : Txt) (h : ¬ (0 ≤ k ∧ k ≤ 5)) : madF x ⟨k, n, t⟩ = none := by
  unfold madF; simp only []; rw [if_neg (by omega), if_neg (by omega), if_neg (by omega), if_neg (by omega), if_neg (by omega), if_neg (by omega)]
/-- The numbers of a signal are not too great for the next deed. -/
def LvOk (x : List C) : Prop := ∃ a : Int, Lv x a ∧ -149 ≤ a ∧ a ≤ 117
theorem LvOk.prod {x : List C} (h : LvOk x) (s : Int) : ProdOk x s := by obtain ⟨a, h1, h2, h3⟩ := h; exact h1.prodOk h2 (by omega) s
theorem LvOk.small {x : List C} (h : LvOk x) : Small x := by obtain ⟨a, h1, h2, h3⟩ := h; exact h1.small (by omega)

set_option maxHeartbeats 4000000 in
set_option maxRecDepth 100000 in
theorem sMade (A : Option Addr) (l c : Nat) (x : List C) (k n : Int) (t : Txt) (w : World) (hl : l ≤ 1048576) (hx : Cs w A l x) (hg : LvOk x) (ht : t.length ≤ 1073741824) :
    Calls Try.prog 23 #[.slice A l c, dv ⟨k, n, t⟩] w (RetO w (madF x ⟨k, n, t⟩)) := by
  have hto := bs_nilB
  have hto2 := bs_toL
  have HX : Hid (Cs (w.alloc (.cells #[.int .i64 k, .int .i64 n, .string (bs t)] 43)) A l x) := hx.below (below_alloc _ _)
  have HB : Hid (Below w.heap.size w (w.alloc (.cells #[.int .i64 k, .int .i64 n, .string (bs t)] 43))) := below_alloc _ _
  have HNO : Hid (RetC w [] false (.returned (.tuple #[.slice (some ⟨w.heap.size + 1, 0, none⟩) 0 0, .bool false])) ((w.alloc (.cells #[.int .i64 k, .int .i64 n, .string (bs t)] 43)).alloc (.cells #[] 35))) := by
    have h := Ow.empty (w.alloc (.cells #[.int .i64 k, .int .i64 n, .string (bs t)] 43)) 35
    rw [size_alloc] at h
    exact RetC.empty (h.mono (by omega)) (HB.out.alloc (by rw [size_alloc]; omega) _)
  have HT : Hid (∀ w, Cs w A l x → Calls Try.prog 29 #[.slice A l c] w (RetO w (transF x))) := fun w h => sTransform A l c x w hl h fun _ => hg.prod _
  have HK : Hid (∀ w, Cs w A l x → Calls Try.prog 30 #[.slice A l c] w (RetO w (backF x))) := fun w h => sBack A l c x w hl h fun _ => hg.prod _
  have HM : Hid (∀ w, Cs w A l x → Calls Try.prog 31 #[.slice A l c, .int .i64 n] w (RetS w (movF x n))) := fun w h => sMoved A l c x n w hl h
  have HS : Hid (∀ w, Cs w A l x → Calls Try.prog 32 #[.slice A l c, .int .i64 n] w (RetO w (shiF x n))) := fun w h => sShifted A l c x n w hl h fun _ => hg.small
  have HW : Hid (∀ w, Cs w A l x → Calls Try.prog 33 #[.slice A l c, .int .i64 n] w (RetO w (winF x n))) := fun w h => sWindowed A l c x n w hl h
  have HR : Hid (∀ w, Calls Try.prog 28 #[.string (bs t)] w (RetO w ((readSig t).map mils))) := fun w => sReadSignal t ht w
  clear hx hg ht
  unfold dv
  rcases kind_cases k with rfl | rfl | rfl | rfl | rfl | rfl | rfl | ⟨⟨b0, b1, b2, b3, b4, b5, b6⟩, hw, h7⟩
  · by_cases hn : n = 0
    · subst hn
      by_cases ht : t = []
      · subst ht
        have HD := Lib.hid (madF0 x [])
        go_enter Try.func23, Try.ntmps23
        go_wp2_with fail
        refine (HR.out _).mono ?_
        rintro e w1 hr
        have hr2 := RetC.trans' hr HB.out
        rw [← HD.out] at hr2
        obtain ⟨A1, m1, c1, rfl, ho, hb⟩ := hr2
        have HQ : Hid (RetO w (madF x _) (.returned (.tuple #[.slice A1 m1 c1, .bool _])) w1) := ⟨A1, m1, c1, rfl, ho, hb⟩
        clear hr ho hb
        go_wp2_with fail
        go_ret2
        exact HQ.out
      · have ht2 : t.isEmpty = false := by simpa using ht
        clear ht
        have HD := Lib.hid (madF0 x t)
        go_enter Try.func23, Try.ntmps23
        go_wp2_with fail
        refine (HR.out _).mono ?_
        rintro e w1 hr
        have hr2 := RetC.trans' hr HB.out
        rw [← HD.out] at hr2
        obtain ⟨A1, m1, c1, rfl, ho, hb⟩ := hr2
        have HQ : Hid (RetO w (madF x _) (.returned (.tuple #[.slice A1 m1 c1, .bool _])) w1) := ⟨A1, m1, c1, rfl, ho, hb⟩
        clear hr ho hb
        go_wp2_with fail
        go_ret2
        exact HQ.out
    · have hb : (n == 0) = false := by rw [beq_eq_false_iff_ne]; exact hn
      by_cases ht : t = []
      · subst ht
        have HD := Lib.hid (madF0n x [] hn)
        go_enter Try.func23, Try.ntmps23
        go_wp2_with fail
        go_ret2
        show RetO _ _ _ _
        rw [HD.out]
        exact HNO.out
      · have ht2 : t.isEmpty = false := by simpa using ht
        clear ht
        have HD := Lib.hid (madF0n x t hn)
        go_enter Try.func23, Try.ntmps23
        go_wp2_with fail
        go_ret2
        show RetO _ _ _ _
        rw [HD.out]
        exact HNO.out
  · by_cases ht : t = []
    · subst ht
      by_cases hn : n = 0
      · subst hn
        have HD := Lib.hid (madF1 x)
        go_enter Try.func23, Try.ntmps23
        go_wp2_with fail
        refine (HT.out _ HX.out).mono ?_
        rintro e w1 hr
        have hr2 := RetC.trans' hr HB.out
        rw [← HD.out] at hr2
        obtain ⟨A1, m1, c1, rfl, ho, hb⟩ := hr2
        have HQ : Hid (RetO w (madF x _) (.returned (.tuple #[.slice A1 m1 c1, .bool _])) w1) := ⟨A1, m1, c1, rfl, ho, hb⟩
        clear hr ho hb
        go_wp2_with fail
        go_ret2
        exact HQ.out
      · have hb : (n == 0) = false := by rw [beq_eq_false_iff_ne]; exact hn
        have HD := Lib.hid (madF12 x (k := 1) (t := []) (by decide) (fun h => hn h.1))
        go_enter Try.func23, Try.ntmps23
        go_wp2_with fail
        go_ret2
        show RetO _ _ _ _
        rw [HD.out]
        exact HNO.out
    · have ht2 : t.isEmpty = false := by simpa using ht
      have HD0 := Lib.hid (madF12 x (k := 1) (n := n) (t := t) (by decide) (fun h => ht h.2))
      clear ht
      have HD := Lib.hid (HD0.out)
      go_enter Try.func23, Try.ntmps23
      go_wp2_with fail
      go_ret2
      show RetO _ _ _ _
      rw [HD.out]
      exact HNO.out
  · by_cases ht : t = []
    · subst ht
      by_cases hn : n = 0
      · subst hn
        have HD := Lib.hid (madF2 x)
        go_enter Try.func23, Try.ntmps23
        go_wp2_with fail
        refine (HK.out _ HX.out).mono ?_
        rintro e w1 hr
        have hr2 := RetC.trans' hr HB.out
        rw [← HD.out] at hr2
        obtain ⟨A1, m1, c1, rfl, ho, hb⟩ := hr2
        have HQ : Hid (RetO w (madF x _) (.returned (.tuple #[.slice A1 m1 c1, .bool _])) w1) := ⟨A1, m1, c1, rfl, ho, hb⟩
        clear hr ho hb
        go_wp2_with fail
        go_ret2
        exact HQ.out
      · have hb : (n == 0) = false := by rw [beq_eq_false_iff_ne]; exact hn
        have HD := Lib.hid (madF12 x (k := 2) (t := []) (by decide) (fun h => hn h.1))
        go_enter Try.func23, Try.ntmps23
        go_wp2_with fail
        go_ret2
        show RetO _ _ _ _
        rw [HD.out]
        exact HNO.out
    · have ht2 : t.isEmpty = false := by simpa using ht
      have HD0 := Lib.hid (madF12 x (k := 2) (n := n) (t := t) (by decide) (fun h => ht h.2))
      clear ht
      have HD := Lib.hid (HD0.out)
      go_enter Try.func23, Try.ntmps23
      go_wp2_with fail
      go_ret2
      show RetO _ _ _ _
      rw [HD.out]
      exact HNO.out
  · by_cases ht : t = []
    · subst ht
      by_cases hm : movF x n = []
      · have HD := Lib.hid (madF3n x n hm)
        rw [hm] at HM
        clear hm
        go_enter Try.func23, Try.ntmps23
        go_wp2_with fail
        refine (HM.out _ HX.out).mono ?_
        rintro e w1 ⟨A1, m1, c1, rfl, ho, hb⟩
        obtain rfl : m1 = 0 := by have := ho.len; simpa using this.symm
        have HQ : Hid (RetO w (madF x ⟨3, n, []⟩) (.returned (.tuple #[.slice A1 0 c1, .bool false])) w1) := by
          show RetO _ _ _ _
          rw [HD.out]
          exact ⟨A1, 0, c1, rfl, ho.mono HB.out.size, HB.out.trans (hb.mono HB.out.size)⟩
        clear ho hb
        go_wp2_with fail
        go_ret2
        exact HQ.out
      · have HD := Lib.hid (madF3 x n hm)
        have hpos : 0 < (movF x n).length := by cases h : movF x n with | nil => exact absurd h hm | cons a b => simp
        have HPO := Lib.hid hpos
        clear hm hpos
        go_enter Try.func23, Try.ntmps23
        go_wp2_with fail
        refine (HM.out _ HX.out).mono ?_
        rintro e w1 ⟨A1, m1, c1, rfl, ho, hb⟩
        have hm1 : (0 : Int) < (m1 : Int) := by have h1 := ho.len; have h2 := HPO.out; rw [List.length_map] at h1; omega
        have HQ : Hid (RetO w (madF x ⟨3, n, []⟩) (.returned (.tuple #[.slice A1 m1 c1, .bool (decide (0 < m1))])) w1) := by
          show RetO _ _ _ _
          rw [HD.out, decide_eq_true (show 0 < m1 by omega)]
          exact ⟨A1, m1, c1, rfl, ho.mono HB.out.size, HB.out.trans (hb.mono HB.out.size)⟩
        clear ho hb
        go_wp2_with fail
        go_ret2
        exact HQ.out
    · have ht2 : t.isEmpty = false := by simpa using ht
      have HD0 := Lib.hid (madF35 x (k := 3) n (t := t) (by decide) ht)
      clear ht
      have HD := Lib.hid (HD0.out)
      go_enter Try.func23, Try.ntmps23
      go_wp2_with fail
      go_ret2
      show RetO _ _ _ _
      rw [HD.out]
      exact HNO.out
  · by_cases ht : t = []
    · subst ht
      have HD := Lib.hid (madF4 x n)
      go_enter Try.func23, Try.ntmps23
      go_wp2_with fail
      refine (HS.out _ HX.out).mono ?_
      rintro e w1 hr
      have hr2 := RetC.trans' hr HB.out
      rw [← HD.out] at hr2
      obtain ⟨A1, m1, c1, rfl, ho, hb⟩ := hr2
      have HQ : Hid (RetO w (madF x _) (.returned (.tuple #[.slice A1 m1 c1, .bool _])) w1) := ⟨A1, m1, c1, rfl, ho, hb⟩
      clear hr ho hb
      go_wp2_with fail
      go_ret2
      exact HQ.out
    · have ht2 : t.isEmpty = false := by simpa using ht
      have HD0 := Lib.hid (madF35 x (k := 4) n (t := t) (by decide) ht)
      clear ht
      have HD := Lib.hid (HD0.out)
      go_enter Try.func23, Try.ntmps23
      go_wp2_with fail
      go_ret2
      show RetO _ _ _ _
      rw [HD.out]
      exact HNO.out
  · by_cases ht : t = []
    · subst ht
      have HD := Lib.hid (madF5 x n)
      go_enter Try.func23, Try.ntmps23
      go_wp2_with fail
      refine (HW.out _ HX.out).mono ?_
      rintro e w1 hr
      have hr2 := RetC.trans' hr HB.out
      rw [← HD.out] at hr2
      obtain ⟨A1, m1, c1, rfl, ho, hb⟩ := hr2
      have HQ : Hid (RetO w (madF x _) (.returned (.tuple #[.slice A1 m1 c1, .bool _])) w1) := ⟨A1, m1, c1, rfl, ho, hb⟩
      clear hr ho hb
      go_wp2_with fail
      go_ret2
      exact HQ.out
    · have ht2 : t.isEmpty = false := by simpa using ht
      have HD0 := Lib.hid (madF35 x (k := 5) n (t := t) (by decide) ht)
      clear ht
      have HD := Lib.hid (HD0.out)
      go_enter Try.func23, Try.ntmps23
      go_wp2_with fail
      go_ret2
      show RetO _ _ _ _
      rw [HD.out]
      exact HNO.out
  · have HD0 := Lib.hid (madFo x (k := 6) n t (by decide))
    by_cases ht : t = []
    · subst ht
      by_cases hn : n = 0
      · subst hn
        have HD := Lib.hid (HD0.out)
        go_enter Try.func23, Try.ntmps23
        go_wp2_with fail
        go_ret2
        show RetO _ _ _ _
        rw [HD.out]
        exact HNO.out
      · have hb : (n == 0) = false := by rw [beq_eq_false_iff_ne]; exact hn
        have HD := Lib.hid (HD0.out)
        go_enter Try.func23, Try.ntmps23
        go_wp2_with fail
        go_ret2
        show RetO _ _ _ _
        rw [HD.out]
        exact HNO.out
    · have ht2 : t.isEmpty = false := by simpa using ht
      clear ht
      have HD := Lib.hid (HD0.out)
      go_enter Try.func23, Try.ntmps23
      go_wp2_with fail
      go_ret2
      show RetO _ _ _ _
      rw [HD.out]
      exact HNO.out
  · have HD0 := Lib.hid (madFo x (k := k) n t (by omega))
    clear hw h7
    by_cases ht : t = []
    · subst ht
      by_cases hn : n = 0
      · subst hn
        have HD := Lib.hid (HD0.out)
        go_enter Try.func23, Try.ntmps23
        go_wp2_with fail
        go_ret2
        show RetO _ _ _ _
        rw [HD.out]
        exact HNO.out
      · have hb : (n == 0) = false := by rw [beq_eq_false_iff_ne]; exact hn
        have HD := Lib.hid (HD0.out)
        go_enter Try.func23, Try.ntmps23
        go_wp2_with fail
        go_ret2
        show RetO _ _ _ _
        rw [HD.out]
        exact HNO.out
    · have ht2 : t.isEmpty = false := by simpa using ht
      clear ht
      have HD := Lib.hid (HD0.out)
      go_enter Try.func23, Try.ntmps23
      go_wp2_with fail
      go_ret2
      show RetO _ _ _ _
      rw [HD.out]
      exact HNO.out
end Go.Proofs.Ytnomlkkhkacajaa
