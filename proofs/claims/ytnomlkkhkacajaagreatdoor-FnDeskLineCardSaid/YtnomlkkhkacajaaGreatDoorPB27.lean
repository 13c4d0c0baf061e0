/- Texts on the way to a law (E9, E6, U11, D6, D9, U12, U14), each with its own remark. -/
import Derived.Test.YtnomlkkhkacajaaGreatDoorPB20
import Derived.Test.YtnomlkkhkacajaaGreatDoorPB17
import Derived.Test.YtnomlkkhkacajaaGreatDoorPB11
import Derived.Test.YtnomlkkhkacajaaGreatDoorPB26
import Derived.Test.YtnomlkkhkacajaaGreatDoorPB08
import Derived.Test.YtnomlkkhkacajaaGreatDoorPB07
import Derived.Test.YtnomlkkhkacajaaGreatDoorPB14
import Derived.Test.YtnomlkkhkacajaaGreatDoorPB09
namespace Go.Proofs.YtnomlkkhkacajaaGreatDoor
open Go.RowKit
open Go.Lib hiding intOf

/-- What a deed makes of a signal. -/
def madF (x : List C) (a : Dd) : Option (List C) :=
  if a.kind = 0 then (if a.num = 0 then (readSig a.text).map mils else none)
  else if a.kind = 1 then (if a.num = 0 ∧ a.text = [] then transF x else none)
  else if a.kind = 2 then (if a.num = 0 ∧ a.text = [] then backF x else none)
  else if a.kind = 3 then (if a.text = [] ∧ movF x a.num ≠ [] then some (movF x a.num) else none)
  else if a.kind = 4 then (if a.text = [] then shiF x a.num else none)
  else if a.kind = 5 then (if a.text = [] then winF x a.num else none)
  else none
theorem madF0 (x : List C) (t : Txt) : madF x ⟨0, 0, t⟩ = (readSig t).map mils := rfl
theorem madF0n (x : List C) {n : Int} (t : Txt) (h : ¬ n = 0) : madF x ⟨0, n, t⟩ = none := by unfold madF; rw [if_pos rfl, if_neg h]
theorem madF1 (x : List C) : madF x ⟨1, 0, []⟩ = transF x := rfl
theorem madF2 (x : List C) : madF x ⟨2, 0, []⟩ = backF x := rfl
theorem madF12 (x : List C) {k n : Int} {t : Txt} (hk : k = 1 ∨ k = 2) (h : ¬ (n = 0 ∧ t = [])) : madF x ⟨k, n, t⟩ = none := by
  rcases hk with rfl | rfl <;> (unfold madF; simp [h])
theorem madF3 (x : List C) (n : Int) (h : movF x n ≠ []) : madF x ⟨3, n, []⟩ = some (movF x n) := by unfold madF; simp [h]
theorem madF3n (x : List C) (n : Int) (h : movF x n = []) : madF x ⟨3, n, []⟩ = none := by unfold madF; simp [h]
theorem madF4 (x : List C) (n : Int) : madF x ⟨4, n, []⟩ = shiF x n := rfl
theorem madF5 (x : List C) (n : Int) : madF x ⟨5, n, []⟩ = winF x n := rfl
theorem madF35 (x : List C) {k : Int} (n : Int) {t : Txt} (hk : k = 3 ∨ k = 4 ∨ k = 5) (h : ¬ t = []) : madF x ⟨k, n, t⟩ = none := by
  rcases hk with rfl | rfl | rfl <;> (unfold madF; simp [h])
theorem madFo (x : List C) {k : Int} (n : Int) (t : Txt) (h : ¬ (0 ≤ k ∧ k ≤ 5)) : madF x ⟨k, n, t⟩ = none := by
  unfold madF; simp only []; rw [if_neg (by omega), if_neg (by omega), if_neg (by omega), if_neg (by omega), if_neg (by omega), if_neg (by omega)]
/-- The numbers of a signal are not too great for the next deed. -/
def LvOk (x : List C) : Prop := ∃ a : Int, Lv x a ∧ -149 ≤ a ∧ a ≤ 117
theorem LvOk.prod {x : List C} (h : LvOk x) (s : Int) : ProdOk x s := by obtain ⟨a, h1, h2, h3⟩ := h; exact h1.prodOk h2 (by omega) s
theorem LvOk.small {x : List C} (h : LvOk x) : Small x := by obtain ⟨a, h1, h2, h3⟩ := h; exact h1.small (by omega)

set_option maxHeartbeats 4000000 in
set_option maxRecDepth 100000 in
theorem sMade (A : Option Addr) (l c : Nat) (x : List C) (k n : Int) (t : Txt) (w : World) (hl : l ≤ 1048576) (hx : Cs w A l x) (hg : LvOk x) (ht : t.length ≤ 1073741824) :
    Calls Tryz.prog 40 #[.slice A l c, dv ⟨k, n, t⟩] w (RetO w (madF x ⟨k, n, t⟩)) := by
  have hto := bs_nilB
  have hto2 := bs_toL
  have HX : Hid (Cs (w.alloc (.cells #[.int .i64 k, .int .i64 n, .string (bs t)] 28)) A l x) := hx.below (below_alloc _ _)
  have HB : Hid (Below w.heap.size w (w.alloc (.cells #[.int .i64 k, .int .i64 n, .string (bs t)] 28))) := below_alloc _ _
  have HNO : Hid (RetC w [] false (.returned (.tuple #[.slice (some ⟨w.heap.size + 1, 0, none⟩) 0 0, .bool false])) ((w.alloc (.cells #[.int .i64 k, .int .i64 n, .string (bs t)] 28)).alloc (.cells #[] 73))) := by
    have h := Ow.empty (w.alloc (.cells #[.int .i64 k, .int .i64 n, .string (bs t)] 28)) 73
    rw [size_alloc] at h
    exact RetC.empty (h.mono (by omega)) (HB.out.alloc (by rw [size_alloc]; omega) _)
  have HT : Hid (∀ w, Cs w A l x → Calls Tryz.prog 82 #[.slice A l c] w (RetO w (transF x))) := fun w h => sTransform A l c x w hl h fun _ => hg.prod _
  have HK : Hid (∀ w, Cs w A l x → Calls Tryz.prog 83 #[.slice A l c] w (RetO w (backF x))) := fun w h => sBack A l c x w hl h fun _ => hg.prod _
  have HM : Hid (∀ w, Cs w A l x → Calls Tryz.prog 84 #[.slice A l c, .int .i64 n] w (RetS w (movF x n))) := fun w h => sMoved A l c x n w hl h
  have HS : Hid (∀ w, Cs w A l x → Calls Tryz.prog 85 #[.slice A l c, .int .i64 n] w (RetO w (shiF x n))) := fun w h => sShifted A l c x n w hl h fun _ => hg.small
  have HW : Hid (∀ w, Cs w A l x → Calls Tryz.prog 86 #[.slice A l c, .int .i64 n] w (RetO w (winF x n))) := fun w h => sWindowed A l c x n w hl h
  have HR : Hid (∀ w, Calls Tryz.prog 81 #[.string (bs t)] w (RetO w ((readSig t).map mils))) := fun w => sReadSignal t ht w
  clear hx hg ht
  unfold dv
  rcases kind_cases k with rfl | rfl | rfl | rfl | rfl | rfl | rfl | ⟨⟨b0, b1, b2, b3, b4, b5, b6⟩, hw, h7⟩
  · by_cases hn : n = 0
    · subst hn
      by_cases ht : t = []
      · subst ht
        have HD := Lib.hid (madF0 x [])
        go_enter Tryz.func40, Tryz.ntmps40
        go_wp2_with fail
        refine (HR.out _).mono ?_
        rintro e w1 hr
        have hr2 := RetC.trans' hr HB.out
        rw [← HD.out] at hr2
        obtain ⟨A1, m1, c1, rfl, ho, hb⟩ := hr2
        have HQ : Hid (RetO w (madF x _) (.returned (.tuple #[.slice A1 m1 c1, .bool _])) w1) := ⟨A1, m1, c1, rfl, ho, hb⟩
        clear hr ho hb
        go_wp2_with fail
        go_ret2
        exact HQ.out
      · have ht2 : t.isEmpty = false := by simpa using ht
        clear ht
        have HD := Lib.hid (madF0 x t)
        go_enter Tryz.func40, Tryz.ntmps40
        go_wp2_with fail
        refine (HR.out _).mono ?_
        rintro e w1 hr
        have hr2 := RetC.trans' hr HB.out
        rw [← HD.out] at hr2
        obtain ⟨A1, m1, c1, rfl, ho, hb⟩ := hr2
        have HQ : Hid (RetO w (madF x _) (.returned (.tuple #[.slice A1 m1 c1, .bool _])) w1) := ⟨A1, m1, c1, rfl, ho, hb⟩
        clear hr ho hb
        go_wp2_with fail
        go_ret2
        exact HQ.out
    · have hb : (n == 0) = false := by rw [beq_eq_false_iff_ne]; exact hn
      by_cases ht : t = []
      · subst ht
        have HD := Lib.hid (madF0n x [] hn)
        go_enter Tryz.func40, Tryz.ntmps40
        go_wp2_with fail
        go_ret2
        show RetO _ _ _ _
        rw [HD.out]
        exact HNO.out
      · have ht2 : t.isEmpty = false := by simpa using ht
        clear ht
        have HD := Lib.hid (madF0n x t hn)
        go_enter Tryz.func40, Tryz.ntmps40
        go_wp2_with fail
        go_ret2
        show RetO _ _ _ _
        rw [HD.out]
        exact HNO.out
  · by_cases ht : t = []
    · subst ht
      by_cases hn : n = 0
      · subst hn
        have HD := Lib.hid (madF1 x)
        go_enter Tryz.func40, Tryz.ntmps40
        go_wp2_with fail
        refine (HT.out _ HX.out).mono ?_
        rintro e w1 hr
        have hr2 := RetC.trans' hr HB.out
        rw [← HD.out] at hr2
        obtain ⟨A1, m1, c1, rfl, ho, hb⟩ := hr2
        have HQ : Hid (RetO w (madF x _) (.returned (.tuple #[.slice A1 m1 c1, .bool _])) w1) := ⟨A1, m1, c1, rfl, ho, hb⟩
        clear hr ho hb
        go_wp2_with fail
        go_ret2
        exact HQ.out
      · have hb : (n == 0) = false := by rw [beq_eq_false_iff_ne]; exact hn
        have HD := Lib.hid (madF12 x (k := 1) (t := []) (by decide) (fun h => hn h.1))
        go_enter Tryz.func40, Tryz.ntmps40
        go_wp2_with fail
        go_ret2
        show RetO _ _ _ _
        rw [HD.out]
        exact HNO.out
    · have ht2 : t.isEmpty = false := by simpa using ht
      have HD0 := Lib.hid (madF12 x (k := 1) (n := n) (t := t) (by decide) (fun h => ht h.2))
      clear ht
      have HD := Lib.hid (HD0.out)
      go_enter Tryz.func40, Tryz.ntmps40
      go_wp2_with fail
      go_ret2
      show RetO _ _ _ _
      rw [HD.out]
      exact HNO.out
  · by_cases ht : t = []
    · subst ht
      by_cases hn : n = 0
      · subst hn
        have HD := Lib.hid (madF2 x)
        go_enter Tryz.func40, Tryz.ntmps40
        go_wp2_with fail
        refine (HK.out _ HX.out).mono ?_
        rintro e w1 hr
        have hr2 := RetC.trans' hr HB.out
        rw [← HD.out] at hr2
        obtain ⟨A1, m1, c1, rfl, ho, hb⟩ := hr2
        have HQ : Hid (RetO w (madF x _) (.returned (.tuple #[.slice A1 m1 c1, .bool _])) w1) := ⟨A1, m1, c1, rfl, ho, hb⟩
        clear hr ho hb
        go_wp2_with fail
        go_ret2
        exact HQ.out
      · have hb : (n == 0) = false := by rw [beq_eq_false_iff_ne]; exact hn
        have HD := Lib.hid (madF12 x (k := 2) (t := []) (by decide) (fun h => hn h.1))
        go_enter Tryz.func40, Tryz.ntmps40
        go_wp2_with fail
        go_ret2
        show RetO _ _ _ _
        rw [HD.out]
        exact HNO.out
    · have ht2 : t.isEmpty = false := by simpa using ht
      have HD0 := Lib.hid (madF12 x (k := 2) (n := n) (t := t) (by decide) (fun h => ht h.2))
      clear ht
      have HD := Lib.hid (HD0.out)
      go_enter Tryz.func40, Tryz.ntmps40
      go_wp2_with fail
      go_ret2
      show RetO _ _ _ _
      rw [HD.out]
      exact HNO.out
  · by_cases ht : t = []
    · subst ht
      by_cases hm : movF x n = []
      · have HD := Lib.hid (madF3n x n hm)
        rw [hm] at HM
        clear hm
        go_enter Tryz.func40, Tryz.ntmps40
        go_wp2_with fail
        refine (HM.out _ HX.out).mono ?_
        rintro e w1 ⟨A1, m1, c1, rfl, ho, hb⟩
        obtain rfl : m1 = 0 := by have := ho.len; simpa using this.symm
        have HQ : Hid (RetO w (madF x ⟨3, n, []⟩) (.returned (.tuple #[.slice A1 0 c1, .bool false])) w1) := by
          show RetO _ _ _ _
          rw [HD.out]
          exact ⟨A1, 0, c1, rfl, ho.mono HB.out.size, HB.out.trans (hb.mono HB.out.size)⟩
        clear ho hb
        go_wp2_with fail
        go_ret2
        exact HQ.out
      · have HD := Lib.hid (madF3 x n hm)
        have hpos : 0 < (movF x n).length := by cases h : movF x n with | nil => exact absurd h hm | cons a b => simp
        have HPO := Lib.hid hpos
        clear hm hpos
        go_enter Tryz.func40, Tryz.ntmps40
        go_wp2_with fail
        refine (HM.out _ HX.out).mono ?_
        rintro e w1 ⟨A1, m1, c1, rfl, ho, hb⟩
        have hm1 : (0 : Int) < (m1 : Int) := by have h1 := ho.len; have h2 := HPO.out; rw [List.length_map] at h1; omega
        have HQ : Hid (RetO w (madF x ⟨3, n, []⟩) (.returned (.tuple #[.slice A1 m1 c1, .bool (decide (0 < m1))])) w1) := by
          show RetO _ _ _ _
          rw [HD.out, decide_eq_true (show 0 < m1 by omega)]
          exact ⟨A1, m1, c1, rfl, ho.mono HB.out.size, HB.out.trans (hb.mono HB.out.size)⟩
        clear ho hb
        go_wp2_with fail
        go_ret2
        exact HQ.out
    · have ht2 : t.isEmpty = false := by simpa using ht
      have HD0 := Lib.hid (madF35 x (k := 3) n (t := t) (by decide) ht)
      clear ht
      have HD := Lib.hid (HD0.out)
      go_enter Tryz.func40, Tryz.ntmps40
      go_wp2_with fail
      go_ret2
      show RetO _ _ _ _
      rw [HD.out]
      exact HNO.out
  · by_cases ht : t = []
    · subst ht
      have HD := Lib.hid (madF4 x n)
      go_enter Tryz.func40, Tryz.ntmps40
      go_wp2_with fail
      refine (HS.out _ HX.out).mono ?_
      rintro e w1 hr
      have hr2 := RetC.trans' hr HB.out
      rw [← HD.out] at hr2
      obtain ⟨A1, m1, c1, rfl, ho, hb⟩ := hr2
      have HQ : Hid (RetO w (madF x _) (.returned (.tuple #[.slice A1 m1 c1, .bool _])) w1) := ⟨A1, m1, c1, rfl, ho, hb⟩
      clear hr ho hb
      go_wp2_with fail
      go_ret2
      exact HQ.out
    · have ht2 : t.isEmpty = false := by simpa using ht
      have HD0 := Lib.hid (madF35 x (k := 4) n (t := t) (by decide) ht)
      clear ht
      have HD := Lib.hid (HD0.out)
      go_enter Tryz.func40, Tryz.ntmps40
      go_wp2_with fail
      go_ret2
      show RetO _ _ _ _
      rw [HD.out]
      exact HNO.out
  · by_cases ht : t = []
    · subst ht
      have HD := Lib.hid (madF5 x n)
      go_enter Tryz.func40, Tryz.ntmps40
      go_wp2_with fail
      refine (HW.out _ HX.out).mono ?_
      rintro e w1 hr
      have hr2 := RetC.trans' hr HB.out
      rw [← HD.out] at hr2
      obtain ⟨A1, m1, c1, rfl, ho, hb⟩ := hr2
      have HQ : Hid (RetO w (madF x _) (.returned (.tuple #[.slice A1 m1 c1, .bool _])) w1) := ⟨A1, m1, c1, rfl, ho, hb⟩
      clear hr ho hb
      go_wp2_with fail
      go_ret2
      exact HQ.out
    · have ht2 : t.isEmpty = false := by simpa using ht
      have HD0 := Lib.hid (madF35 x (k := 5) n (t := t) (by decide) ht)
      clear ht
      have HD := Lib.hid (HD0.out)
      go_enter Tryz.func40, Tryz.ntmps40
      go_wp2_with fail
      go_ret2
      show RetO _ _ _ _
      rw [HD.out]
      exact HNO.out
  · have HD0 := Lib.hid (madFo x (k := 6) n t (by decide))
    by_cases ht : t = []
    · subst ht
      by_cases hn : n = 0
      · subst hn
        have HD := Lib.hid (HD0.out)
        go_enter Tryz.func40, Tryz.ntmps40
        go_wp2_with fail
        go_ret2
        show RetO _ _ _ _
        rw [HD.out]
        exact HNO.out
      · have hb : (n == 0) = false := by rw [beq_eq_false_iff_ne]; exact hn
        have HD := Lib.hid (HD0.out)
        go_enter Tryz.func40, Tryz.ntmps40
        go_wp2_with fail
        go_ret2
        show RetO _ _ _ _
        rw [HD.out]
        exact HNO.out
    · have ht2 : t.isEmpty = false := by simpa using ht
      clear ht
      have HD := Lib.hid (HD0.out)
      go_enter Tryz.func40, Tryz.ntmps40
      go_wp2_with fail
      go_ret2
      show RetO _ _ _ _
      rw [HD.out]
      exact HNO.out
  · have HD0 := Lib.hid (madFo x (k := k) n t (by omega))
    clear hw h7
    by_cases ht : t = []
    · subst ht
      by_cases hn : n = 0
      · subst hn
        have HD := Lib.hid (HD0.out)
        go_enter Tryz.func40, Tryz.ntmps40
        go_wp2_with fail
        go_ret2
        show RetO _ _ _ _
        rw [HD.out]
        exact HNO.out
      · have hb : (n == 0) = false := by rw [beq_eq_false_iff_ne]; exact hn
        have HD := Lib.hid (HD0.out)
        go_enter Tryz.func40, Tryz.ntmps40
        go_wp2_with fail
        go_ret2
        show RetO _ _ _ _
        rw [HD.out]
        exact HNO.out
    · have ht2 : t.isEmpty = false := by simpa using ht
      clear ht
      have HD := Lib.hid (HD0.out)
      go_enter Tryz.func40, Tryz.ntmps40
      go_wp2_with fail
      go_ret2
      show RetO _ _ _ _
      rw [HD.out]
      exact HNO.out
end Go.Proofs.YtnomlkkhkacajaaGreatDoor
namespace Go.Proofs.YtnomlkkhkacajaaGreatDoor
open Go.RowKit

set_option maxHeartbeats 2000000 in
set_option maxRecDepth 100000 in
theorem sDeskOk (A A' : Option Addr) (n c m c' : Nat) (d : Dk) (w : World) (hd : DkV w 0 A n c A' m d) (hz : DkS d) :
    Calls Tryz.prog 17 #[.agg #[.slice A n c, .slice A' m c']] w fun e w' => e = .returned (.bool (dkB d)) ∧ Below w.heap.size w w' := by
  have HX := Lib.hid hd.now.cs
  have HP := Lib.hid hd.past
  have hl := hd.past.len
  have hnl := hd.now.len
  have hm9 : m ≤ 9 := by have := hz.len; omega
  have hn17 : n ≤ 17 := by have := hz.now; omega
  have HC : Hid (∀ w, Cs w A n d.now → Calls Tryz.prog 47 #[.slice A n c] w fun e w' => e = .returned (.bool (sigB d.now)) ∧ Dr w w') := fun w h => sSignalOk A n c d.now w (by omega) h
  have HZ := Lib.hid hz
  have HL := Lib.hid hl
  clear hd hz hl hnl
  go_enter Tryz.func17, Tryz.ntmps17
  go_wp2_with fail
  go_loopw [3] (fun i wr => ∃ k : Nat, k ≤ m ∧ i = .int .i64 k ∧ (d.past.take k).all sigB = true ∧ Below (w.heap.size + 1) (w.alloc (.cells #[.slice A n c, .slice A' m c'] 26)) wr) (fun i _ => m - (intOf i).toNat)
  case atStart => exact ⟨0, by omega, rfl, rfl, Below.refl _ _⟩
  case round =>
    obtain ⟨k, hk, rfl, hall, hb⟩ := hrel
    obtain ⟨c0, c1, hbw⟩ := desk_box hb
    have HA := Lib.hid hall
    have HB := Lib.hid hb
    have HBW := Lib.hid hbw
    clear hall
    by_cases hlt : k < m
    · obtain ⟨b, o, x, A2, n2, c2, rfl, hbl, hx, hc, hcs⟩ := HP.out.at_ hlt
      have hck := (hbw.cell (p := ⟨b, o + k, none⟩) hbl).trans hc
      have HCX := Lib.hid (hcs.below hbw).cs
      have hn2 : n2 ≤ 17 := by have h1 := hcs.len; have h2 := HZ.out.at_ hx; omega
      have HC2 : Hid (∀ w, Cs w A2 n2 x → Calls Tryz.prog 47 #[.slice A2 n2 c2] w fun e w' => e = .returned (.bool (sigB x)) ∧ Dr w w') := fun w h => sSignalOk A2 n2 c2 x w (by omega) h
      cases hsx : sigB x
      · rw [hsx] at HC2
        have HF := Lib.hid (dkB_past hx hsx)
        clear hb hbw hcs hc hx hsx
        go_wp2_with fail
        refine (HC2.out _ HCX.out).mono ?_
        rintro e w' ⟨rfl, q, rfl⟩
        go_wp2_with fail
        go_ret
        exact ⟨ret_bool HF.out.symm, below_drewN HBW.out q⟩
      · rw [hsx] at HC2
        have HT := Lib.hid (all_snoc HA.out hx hsx)
        clear hb hbw hcs hc hx hsx
        go_wp2_with fail
        refine (HC2.out _ HCX.out).mono ?_
        rintro e w' ⟨rfl, q, rfl⟩
        go_wp2_with fail
        go_roundw
        case rel => first | exact ⟨k + 1, by omega, by go_num, HT.out, below_drewN HB.out q⟩ | ((repeat apply Exists.intro); exact ⟨⟨k + 1, by omega, by go_num, HT.out, below_drewN HB.out q⟩, rfl⟩)
        case measure => simp [intOf]; omega
    · obtain rfl : k = m := by omega
      have HCX := Lib.hid (HX.out.below hbw)
      have HALL : Hid (d.past.all sigB = true) := by have := HA.out; rwa [List.take_of_length_le (by have := HL.out; omega)] at this
      have HK : Hid (dkB d = (sigB d.now && decide (k ≤ 8))) := by show _ = _; unfold dkB; rw [HALL.out, Bool.and_true, HL.out]
      clear hb hbw
      cases hs : sigB d.now
      · rw [hs] at HC HK
        clear hs
        go_wp2_with fail
        refine (HC.out _ HCX.out).mono ?_
        rintro e w' ⟨rfl, q, rfl⟩
        go_wp2_with fail
        go_ret
        exact ⟨ret_bool HK.out.symm, below_drewN HBW.out q⟩
      · rw [hs] at HC HK
        clear hs
        go_wp2_with fail
        refine (HC.out _ HCX.out).mono ?_
        rintro e w' ⟨rfl, q, rfl⟩
        by_cases h8 : k ≤ 8
        · have h8i : (k : Int) ≤ 8 := by omega
          go_wp2_with fail
          go_ret
          exact ⟨ret_bool (by rw [HK.out, decide_eq_true h8]; rfl), below_drewN HBW.out q⟩
        · have h8i : ¬ (k : Int) ≤ 8 := by omega
          go_wp2_with fail
          go_ret
          exact ⟨ret_bool (by rw [HK.out, decide_eq_false h8]; first | rfl | (rw [decide_eq_false (Int.not_le.2 h8i)]; rfl)), below_drewN HBW.out q⟩

set_option maxHeartbeats 2000000 in
set_option maxRecDepth 100000 in
theorem iDeskOk (A A' : Option Addr) (n c m c' : Nat) (d : Dk) (w : World) (hd : DkV w 0 A n c A' m d) (hz : DkS d) :
    Calls Tryz.prog 12 #[.agg #[.slice A n c, .slice A' m c']] w fun e w' => e = .returned (.bool (dkB d)) ∧ Below w.heap.size w w' := by
  have HX := Lib.hid hd.now.cs
  have HP := Lib.hid hd.past
  have hl := hd.past.len
  have hnl := hd.now.len
  have hm9 : m ≤ 9 := by have := hz.len; omega
  have hn17 : n ≤ 17 := by have := hz.now; omega
  have HC : Hid (∀ w, Cs w A n d.now → Calls Tryz.prog 43 #[.slice A n c] w fun e w' => e = .returned (.bool (sigB d.now)) ∧ Dr w w') := fun w h => iSignalOk A n c d.now w (by omega) h
  have HCX : Hid (Cs (w.alloc (.cells #[.slice A n c, .slice A' m c'] 26)) A n d.now) := HX.out.below (below_alloc _ _)
  have HB0 : Hid (Below w.heap.size w (w.alloc (.cells #[.slice A n c, .slice A' m c'] 26))) := below_alloc _ _
  have HZ := Lib.hid hz
  have HL := Lib.hid hl
  cases hs : sigB d.now
  · have HF := Lib.hid (dkB_now hs)
    rw [hs] at HC
    clear hs hd hz hl hnl
    go_enter Tryz.func12, Tryz.ntmps12
    go_wp2_with fail
    refine (HC.out _ HCX.out).mono ?_
    rintro e w' ⟨rfl, q, rfl⟩
    go_wp2_with fail
    go_ret
    exact ⟨ret_bool HF.out.symm, below_drewN HB0.out q⟩
  rw [hs] at HC
  have HS := Lib.hid hs
  by_cases h8 : m ≤ 8
  case neg =>
    have HF := Lib.hid (dkB_len (d := d) (by omega))
    have h8i : (m : Int) > 8 := by omega
    clear hs hd hz hl hnl
    go_enter Tryz.func12, Tryz.ntmps12
    go_wp2_with fail
    refine (HC.out _ HCX.out).mono ?_
    rintro e w' ⟨rfl, q, rfl⟩
    go_wp2_with fail
    go_ret
    exact ⟨ret_bool HF.out.symm, below_drewN HB0.out q⟩
  have h8i : ¬ (m : Int) > 8 := by omega
  clear hs hd hz hl hnl
  go_enter Tryz.func12, Tryz.ntmps12
  go_wp2_with fail
  refine (HC.out _ HCX.out).mono ?_
  rintro e w' ⟨rfl, q, rfl⟩
  have HB1 : Hid (Below (w.heap.size + 1) (w.alloc (.cells #[.slice A n c, .slice A' m c'] 26)) ((w.alloc (.cells #[.slice A n c, .slice A' m c'] 26)).drewN q)) := below_drewN (Below.refl _ _) q
  go_wp2_with fail
  go_loopw [18] (fun i wr => ∃ k : Nat, k ≤ m ∧ i = .int .i64 k ∧ (d.past.take k).all sigB = true ∧ Below (w.heap.size + 1) (w.alloc (.cells #[.slice A n c, .slice A' m c'] 26)) wr) (fun i _ => m - (intOf i).toNat)
  case atStart => first | exact ⟨0, by omega, rfl, rfl, HB1.out⟩ | ((repeat apply Exists.intro); exact ⟨by omega, rfl, rfl, HB1.out⟩)
  case round =>
    obtain ⟨k, hk, rfl, hall, hb⟩ := hrel
    obtain ⟨c0, c1, hbw⟩ := desk_box hb
    have HA := Lib.hid hall
    have HB := Lib.hid hb
    have HBW := Lib.hid hbw
    clear hall
    by_cases hlt : k < m
    · obtain ⟨b, o, x, A2, n2, c2, rfl, hbl, hx, hc, hcs⟩ := HP.out.at_ hlt
      have hck := (hbw.cell (p := ⟨b, o + k, none⟩) hbl).trans hc
      have HCX2 := Lib.hid (hcs.below hbw).cs
      have hn2 : n2 ≤ 17 := by have h1 := hcs.len; have h2 := HZ.out.at_ hx; omega
      have HC2 : Hid (∀ w, Cs w A2 n2 x → Calls Tryz.prog 43 #[.slice A2 n2 c2] w fun e w' => e = .returned (.bool (sigB x)) ∧ Dr w w') := fun w h => iSignalOk A2 n2 c2 x w (by omega) h
      cases hsx : sigB x
      · rw [hsx] at HC2
        have HF := Lib.hid (dkB_past hx hsx)
        clear hb hbw hcs hc hx hsx
        go_wp2_with fail
        refine (HC2.out _ HCX2.out).mono ?_
        rintro e w' ⟨rfl, q, rfl⟩
        go_wp2_with fail
        go_ret
        exact ⟨ret_bool HF.out.symm, below_drewN HBW.out q⟩
      · rw [hsx] at HC2
        have HT := Lib.hid (all_snoc HA.out hx hsx)
        clear hb hbw hcs hc hx hsx
        go_wp2_with fail
        refine (HC2.out _ HCX2.out).mono ?_
        rintro e w' ⟨rfl, q, rfl⟩
        go_wp2_with fail
        go_roundw
        case rel => first | exact ⟨k + 1, by omega, by go_num, HT.out, below_drewN HB.out q⟩ | ((repeat apply Exists.intro); exact ⟨⟨k + 1, by omega, by go_num, HT.out, below_drewN HB.out q⟩, rfl⟩)
        case measure => simp [intOf]; omega
    · obtain rfl : k = m := by omega
      have HALL : Hid (d.past.all sigB = true) := by have := HA.out; rwa [List.take_of_length_le (by have := HL.out; omega)] at this
      have HK : Hid (dkB d = true) := by show _ = _; unfold dkB; rw [HALL.out, Bool.and_true, HL.out, HS.out, decide_eq_true h8]; rfl
      clear hb hbw
      go_wp2_with fail
      go_ret
      exact ⟨ret_bool HK.out.symm, HBW.out⟩
end Go.Proofs.YtnomlkkhkacajaaGreatDoor
namespace Go.Proofs.YtnomlkkhkacajaaGreatDoor
open Go.RowKit
open Go.Lib hiding intOf

theorem Apart.of_lt' {A A' : Option Addr} {B lo hi : Nat} (h : ∀ a, A = some a → B ≤ a.block ∧ a.block < hi) (h' : ∀ a, A' = some a → lo ≤ a.block ∧ a.block < B) : Apart A A' := fun a a' ha ha' e => by
  have h1 := h a ha
  have h2 := h' a' ha'
  omega
theorem apart_symm {A A' : Option Addr} (h : Apart A A') : Apart A' A := fun a a' ha ha' e => h a' a ha' ha e.symm
theorem mils_fin (ps : List Pr) : (mils ps).all finB = true := by
  rw [List.all_eq_true]
  intro z hz
  obtain ⟨p, _, rfl⟩ := List.mem_map.1 hz
  exact milli_fin _ _
theorem readSig_len {l : Txt} : (((readSig l).map mils).getD []).length ≤ 16 := by
  cases h : readSig l with
  | none => simp
  | some ps =>
    have := (readSig_some h).2.2
    show (mils ps).length ≤ 16
    unfold mils; rw [List.length_map]; exact this
theorem readSig_fin {l : Txt} : (((readSig l).map mils).getD []).all finB = true := by
  cases readSig l with
  | none => rfl
  | some ps => exact mils_fin ps

end Go.Proofs.YtnomlkkhkacajaaGreatDoor
namespace Go.Proofs.YtnomlkkhkacajaaGreatDoor
open Go.RowKit

/-- The bytes of a code, as an argument. -/
def Code8 (w : World) (A : Option Addr) (n : Nat) : Prop :=
  n = 0 ∨ ∃ b o, A = some ⟨b, o, none⟩ ∧ b < w.heap.size ∧ ∀ k, k < n → ∃ u : Nat, u < 256 ∧ w.cell? ⟨b, o + k, none⟩ = some (.int .u8 u)
/-- A reader that has just been opened. -/
def RetR (w : World) (e : Ending) (w' : World) : Prop := ∃ g, e = .returned (.pointer (some ⟨g, 0, none⟩)) ∧ w.heap.size ≤ g ∧ Rd w' g 0 ∧ Below w.heap.size w w'
theorem rd_new {w : World} {A : Option Addr} {n c : Nat} (hn : n ≤ 2000) (h : Code8 w A n) : Rd (w.alloc (.cells #[.slice A n c, .int .i64 0] 109)) w.heap.size 0 := by
  refine ⟨by simp, ?_, A, n, c, 0, ?_, ?_, by omega, hn, ?_⟩
  · simp
  · rw [World.cell?_alloc_at _ _ _ _ rfl]; rfl
  · rw [World.cell?_alloc_at _ _ _ _ rfl]; rfl
  · rcases h with h | ⟨b, o, h1, h2, h3⟩
    · exact .inl h
    · refine .inr ⟨b, o, h1, h2, fun k hk => ?_⟩
      obtain ⟨u, h4, h5⟩ := h3 k hk
      exact ⟨u, h4, (World.cell?_alloc_lt _ _ _ h2).trans h5⟩

set_option maxHeartbeats 1000000 in
theorem open_any (A : Option Addr) (n c : Nat) (w : World) (hnc : n ≤ c) (hn : n ≤ 1048576) (h : Code8 w A n) :
    Calls Tryz.prog 32 #[.slice A n c] w (RetR w) := by
  by_cases hl : 2000 < n
  · rcases h with h0 | ⟨b, o, rfl, hb, hc⟩
    · omega
    have HC : Hid (Code8 w (some ⟨b, o, none⟩) 2000) := .inr ⟨b, o, rfl, hb, fun k hk => hc k (by omega)⟩
    clear hc
    go_enter Tryz.func32, Tryz.ntmps32
    go_wp2_with fail
    go_ret
    exact ⟨_, rfl, Nat.le_refl _, rd_new (by omega) HC.out, below_alloc _ _⟩
  · have HC := Lib.hid h
    clear h
    go_enter Tryz.func32, Tryz.ntmps32
    go_wp2_with fail
    go_ret
    exact ⟨_, rfl, Nat.le_refl _, rd_new (by omega) HC.out, below_alloc _ _⟩

end Go.Proofs.YtnomlkkhkacajaaGreatDoor
namespace Go.Proofs.YtnomlkkhkacajaaGreatDoor
open Go.RowKit

def RetDL (w : World) (e : Ending) (w' : World) : Prop :=
  ∃ (A : Option Addr) (m c : Nat) (xs : List C), e = .returned (.slice A m c) ∧ Ow w' w.heap.size 73 (.slice A m c) m (xs.map cv) ∧ m ≤ 17 ∧ DrawnL xs ∧ Below w.heap.size w w'
end Go.Proofs.YtnomlkkhkacajaaGreatDoor
namespace Go.Proofs.YtnomlkkhkacajaaGreatDoor
open Go.RowKit
open Go.Lib hiding intOf

theorem mils_len (ps : List Pr) : (mils ps).length = ps.length := by unfold mils; rw [List.length_map]
theorem thoAll_mils : ∀ {ps : List Pr}, (∀ p ∈ ps, InR p) → thoAll (mils ps) = some ps
  | [], _ => rfl
  | p :: r, h => by
    have hp := h p List.mem_cons_self
    have hr := thoAll_mils (ps := r) fun q hq => h q (List.mem_cons_of_mem _ hq)
    show thoAll (milli p.1 p.2 :: mils r) = _
    unfold thoAll
    rw [tho_milli hp.1 hp.2.1 hp.2.2.1 hp.2.2.2, hr]
    rfl
theorem sigB_mils {ps : List Pr} (h : ps.length ≤ 16) : sigB (mils ps) = true := by
  unfold sigB
  rw [mils_fin, mils_len, decide_eq_true h]; rfl
theorem sigT_mils {ps : List Pr} (h : ∀ p ∈ ps, InR p) (hl : ps.length ≤ 16) : sigT (mils ps) = some (sigText ps) :=
  sigT_yes (sigB_mils hl) (thoAll_mils h)
def pth (ps : List Pr) (k : Nat) : Pr := ps.getD k (0, 0)
theorem thoAll_nth : ∀ {xs : List C} {ps : List Pr} {k : Nat}, thoAll xs = some ps → k < xs.length → tho (nth xs k) = some (pth ps k)
  | [], ps, k, _, hk => by simp at hk
  | z :: r, ps, k, h, hk => by
    unfold thoAll at h
    split at h
    · cases h
    · rename_i p hp
      cases hr : thoAll r with
      | none => rw [hr] at h; cases h
      | some qs =>
        rw [hr] at h; cases h
        cases k with
        | zero => exact hp
        | succ k => exact thoAll_nth (xs := r) (k := k) hr (by simp at hk; omega)
theorem mils_nth {ps : List Pr} {k : Nat} (h : k < ps.length) : nth (mils ps) k = milli (pth ps k).1 (pth ps k).2 := by
  rw [nth_eq (by rw [mils_len]; exact h)]
  unfold mils pth
  rw [List.getElem_map, List.getD_eq_getElem?_getD, List.getElem?_eq_getElem h]; rfl
theorem sigB_fin {xs : List C} (h : sigB xs = true) {k : Nat} (hk : k < xs.length) : finB (nth xs k) = true := by
  unfold sigB at h
  rw [Bool.and_eq_true] at h
  rw [nth_eq hk]
  exact List.all_eq_true.1 h.2 _ (List.getElem_mem hk)
theorem eqV_of_order {a b : C} (ha : finB a = true) (hb : finB b = true) (h1 : (FloatKind.f32.format.order a.1 b.1 == some .eq) = true) (h2 : (FloatKind.f32.format.order a.2 b.2 == some .eq) = true) : EqV a b := by
  obtain ⟨a1, a2⟩ := finB_iff.1 ha
  obtain ⟨b1, b2⟩ := finB_iff.1 hb
  have e1 : (Ieee.single.order a.1 b.1 == some .eq) = true := h1
  have e2 : (Ieee.single.order a.2 b.2 == some .eq) = true := h2
  rw [eq_iff a1 b1, decide_eq_true_eq] at e1
  rw [eq_iff a2 b2, decide_eq_true_eq] at e2
  exact ⟨a1, a2, b1, b2, e1, e2⟩
end Go.Proofs.YtnomlkkhkacajaaGreatDoor
namespace Go.Proofs.YtnomlkkhkacajaaGreatDoor
open Go.RowKit
open Go.Lib hiding intOf

/-- Some text of at most so many bytes. -/
def RetTx (w : World) (M : Nat) (e : Ending) (w' : World) : Prop := ∃ t : Txt, e = .returned (.string (bs t)) ∧ t.length ≤ M ∧ Below w.heap.size w w'
/-- The same of a reader's draw. -/
def RetRx (w : World) (g p M : Nat) (e : Ending) (w' : World) : Prop := ∃ t : Txt, e = .returned (.string (bs t)) ∧ t.length ≤ M ∧ Rd w' g p ∧ Pk g w w'
theorem sigT_len (xs : List C) : ((sigT xs).getD []).length ≤ 705 := by
  cases h : sigT xs with
  | none => simp
  | some t =>
    obtain ⟨_, ps, _, rfl, h4, h5⟩ := sigT_some h
    have := sigText_len h4
    simp only [Option.getD_some]; omega
/-- A literal of six short texts. -/
def lit6 (a b c d e f : Txt) : Array Value := #[.string (bs a), .string (bs b), .string (bs c), .string (bs d), .string (bs e), .string (bs f)]
theorem lit6_get (a b c d e f : Txt) (ha : a.length ≤ 4) (hb : b.length ≤ 4) (hc : c.length ≤ 4) (hd : d.length ≤ 4) (he : e.length ≤ 4) (hf : f.length ≤ 4) (j : Nat) (hj : j < 6) : ∃ u : Txt, u.length ≤ 4 ∧ (lit6 a b c d e f)[j]? = some (.string (bs u)) := by
  have : j = 0 ∨ j = 1 ∨ j = 2 ∨ j = 3 ∨ j = 4 ∨ j = 5 := by omega
  rcases this with rfl | rfl | rfl | rfl | rfl | rfl
  · exact ⟨a, ha, rfl⟩
  · exact ⟨b, hb, rfl⟩
  · exact ⟨c, hc, rfl⟩
  · exact ⟨d, hd, rfl⟩
  · exact ⟨e, he, rfl⟩
  · exact ⟨f, hf, rfl⟩
theorem Rd.drew {w : World} {g p : Nat} (h : Rd w g p) : Rd w.drew g p := h.drewN 1
theorem splice_len (t u : Txt) (k : Nat) (hu : u.length ≤ 4) : ((t.take k ++ u) ++ t.drop (k + 1)).length ≤ t.length + 4 := by
  simp [List.length_take, List.length_drop]; omega

end Go.Proofs.YtnomlkkhkacajaaGreatDoor
