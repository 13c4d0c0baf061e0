/- Texts on the way to a law (H3, E9, E6, U11, D9, U12, U14), each with its own remark. -/
import Derived.Test.YtnomlkkhkacajaaGreatDoorPC25
import Derived.Lib.SliceRun
import Derived.Test.YtnomlkkhkacajaaGreatDoorPC12
import Derived.Test.YtnomlkkhkacajaaGreatDoorPC07
import Derived.Test.YtnomlkkhkacajaaGreatDoorPC20
import Derived.Test.YtnomlkkhkacajaaGreatDoorPC16
import Derived.Test.YtnomlkkhkacajaaGreatDoorPC24
import Derived.Test.YtnomlkkhkacajaaGreatDoorPC23
import Derived.Test.YtnomlkkhkacajaaGreatDoorPC04
import Derived.Test.YtnomlkkhkacajaaGreatDoorPC11
namespace Go.Proofs.YtnomlkkhkacajaaGreatDoor
open Go.RowKit

set_option maxHeartbeats 4000000 in
set_option maxRecDepth 100000 in
theorem iWindowed (A : Option Addr) (n c : Nat) (xs : List C) (kind : Int) (w : World) (hn : n ≤ 1048576) (hx : Cs w A n xs) :
    Calls Tryz.prog 114 #[.slice A n c, .int .i64 kind] w (RetO w (winF xs kind)) := by
  have hl := hx.len
  have HC : Hid (∀ w, Cs w A n xs → Calls Tryz.prog 43 #[.slice A n c] w fun e w' => e = .returned (.bool (sigB xs)) ∧ Dr w w') := fun w h => iSignalOk A n c xs w (by omega) h
  cases hs : sigB xs
  · rw [hs] at HC
    have HN := Lib.hid (winF_no (kind := kind) (.inl hs))
    clear hl hs
    go_enter Tryz.func114, Tryz.ntmps114
    go_wp2_with fail
    refine (HC.out _ hx).mono ?_
    rintro e w' ⟨rfl, m, rfl⟩
    go_wp2_with fail
    go_ret2
    rw [HN.out]
    exact RetC.nil_ (below_drewN (Below.refl _ _) m)
  rw [hs] at HC
  have h16 : n ≤ 16 := by rw [← hl]; exact sig_len hs
  have HW : Hid (∀ w, Calls Tryz.prog 140 #[.int .i64 kind, .int .i64 n] w (RetWi w kind n)) := fun w => iWindow kind n w
  have HNO : Hid (winOk kind n = false → winF xs kind = none) := fun h => winF_no (.inr (by rw [hl]; exact h))
  have HYES : Hid (winOk kind n = true → winF xs kind = some (winM xs kind n)) := fun h => winF_yes hl hs h
  have HF : Hid (∀ i, i < n → finB (nth xs i) = true) := fun i hi => fin_mk hs (by omega)
  have hqn : ∀ w a n c, (binOp .eql 134 (.slice a n c) (.slice none 0 0)).run Tryz.prog w = .ok (.bool a.isNone) w := fun w a n c => Go.Lib.run_eql_slice_nil w _ _ a n c 0 0 Tryz.underlying134
  clear hs hl
  go_enter Tryz.func114, Tryz.ntmps114
  go_wp2_with fail
  refine (HC.out _ hx).mono ?_
  rintro e w' ⟨rfl, m, rfl⟩
  have HX0 : Hid (Cs (w.drewN m) A n xs) := Cs.drewN hx m
  have HB0 : Hid (Below w.heap.size w (w.drewN m)) := below_drewN (Below.refl _ _) m
  clear hx
  go_wp2_with fail
  refine (HW.out _).mono ?_
  rintro e w1 hw1
  rcases hw1 with ⟨hno, rfl, hb1⟩ | ⟨hyes, g1, rfl, ho1, hb1⟩
  · have HN := Lib.hid (HNO.out hno)
    have HB1 : Hid (Below w.heap.size w w1) := HB0.out.trans hb1
    clear hno hb1
    go_wp2_with fail
    go_ret2
    rw [HN.out]
    exact RetC.nil_ HB1.out
  have HY := Lib.hid (HYES.out hyes)
  have HU : Hid (∀ i, i < n → Fin Ieee.single (winW kind n i)) := fun i hi => (winW_part hyes hi).1
  have HB1 : Hid (Below w.heap.size w w1) := HB0.out.trans hb1
  have HX1 := Lib.hid (HX0.out.below hb1)
  have HG1 := Lib.hid ho1.sl
  clear hyes ho1 hb1
  go_wp2_with (at_make; refine wl_make (w0 := w1) rfl (.tmp 20) (.tmp 20) 23 rfl Tryz.eC .i64 .i64 n _ _ rfl rfl rfl rfl (by omega) (by unfold maxLen; omega) (Below.refl _ _) ?_; intro w2 hown hb2 _)
  have HO2 : Hid (Ow w2 w1.heap.size 73 (.slice (some ⟨w1.heap.size, 0, none⟩) n n) n ((rngL (fun i => lessC (nth xs i) (winW kind n i)) 0).map cv ++ List.replicate (n - 0) (.complex .f32 0 0))) := hown
  have HB2 := Lib.hid hb2
  clear hown hb2
  go_loopw [24] (fun i wr => ∃ k : Nat, k ≤ n ∧ i = .int .i64 k ∧ Ow wr w1.heap.size 73 (.slice (some ⟨w1.heap.size, 0, none⟩) n n) n ((rngL (fun i => lessC (nth xs i) (winW kind n i)) k).map cv ++ List.replicate (n - k) (.complex .f32 0 0)) ∧ Below w1.heap.size w1 wr) (fun i _ => n - (intOf i).toNat)
  case atStart => first | exact ⟨0, by omega, rfl, HO2.out, HB2.out⟩ | ((repeat apply Exists.intro); exact ⟨by omega, rfl, HO2.out, HB2.out⟩)
  case round =>
    obtain ⟨k, hk, rfl, ho, hb⟩ := hrel
    have HO := Lib.hid ho
    have HB := Lib.hid hb
    clear ho
    by_cases hlt : k < n
    · obtain ⟨b, o, rfl, hbl, hc⟩ := HX1.out.at_ hlt
      obtain ⟨b', o', hg', hbl', hc'⟩ := Sl.at_ HG1.out hlt
      injection hg' with hg'
      injection hg' with hg1 hg2
      subst hg1; subst hg2
      have hck : wr.cell? ⟨b, o + k, none⟩ = some (cv (nth xs k)) := (hb.cell (p := ⟨b, o + k, none⟩) hbl).trans (hc k hlt)
      have hck' : wr.cell? ⟨g1, k, none⟩ = some (.float .f32 (winW kind n k)) := by have h := (hb.cell (p := ⟨g1, 0 + k, none⟩) hbl').trans (hc' k _ (by rw [List.getElem?_map, List.getElem?_map, List.getElem?_range hlt]; rfl)); rwa [Nat.zero_add] at h
      obtain ⟨g, hg, hge, hgl, hcell, hfr, hst⟩ := Ow.at_ HO.out hlt
      injection hg with hg
      injection hg with hg
      subst hg
      have hck2 : wr.cell? ⟨w1.heap.size, k, none⟩ = some (.complex .f32 0 0) := (hcell k hlt).trans (fil_get _ (by rw [List.length_map, rngL_len]) hlt _)
      have hfr2 := hfr k
      have hst2 := hst k (cv (lessC (nth xs k) (winW kind n k)))
      rw [fil_set _ (by rw [List.length_map, rngL_len]) hlt, show [cv (lessC (nth xs k) (winW kind n k))] = [lessC (nth xs k) (winW kind n k)].map cv from rfl, ← List.map_append, ← rngL_succ (fun i => lessC (nth xs i) (winW kind n i))] at hst2
      obtain ⟨f1, f2⟩ := finB_iff.1 (HF.out k hlt)
      have q1 := fun w => run_float_arith (P := Tryz.prog) w .mul 131 .f32 _ _ _ (mulS_spec f1 (HU.out k hlt)).1
      have q2 := fun w => run_float_arith (P := Tryz.prog) w .mul 131 .f32 _ _ _ (mulS_spec f2 (HU.out k hlt)).1
      have HS := Lib.hid hst2
      have HBX : Hid (Below w1.heap.size w1 (wr.setCell ⟨w1.heap.size, k, none⟩ (cv (lessC (nth xs k) (winW kind n k))))) := HB.out.setCell (Nat.le_refl _) _
      have e1 : cv (lessC (nth xs k) (winW kind n k)) = .complex .f32 (mulS (nth xs k).1 (winW kind n k)) (mulS (nth xs k).2 (winW kind n k)) := rfl
      rw [e1] at HS HBX
      clear hst2 hcell hfr hst f1 f2 hb hc hc' e1
      generalize mulS (nth xs k).1 (winW kind n k) = a1 at *
      generalize mulS (nth xs k).2 (winW kind n k) = a2 at *
      generalize hz : nth xs k = z at hck q1 q2
      clear hz
      generalize hy : winW kind n k = y at hck' q1 q2
      clear hy
      unfold cv at hck
      go_wp2_with fail
      go_region
      all_goals
        have HS2 : Hid (Ow (wr.drew.setCell ⟨w1.heap.size, k, none⟩ (.complex .f32 a1 a2)) w1.heap.size 73 (.slice (some ⟨w1.heap.size, 0, none⟩) n n) n ((rngL (fun i => lessC (nth xs i) (winW kind n i)) (k + 1)).map cv ++ List.replicate (n - (k + 1)) (.complex .f32 0 0))) := HS.out
        have HB2 : Hid (Below w1.heap.size w1 (wr.drew.setCell ⟨w1.heap.size, k, none⟩ (.complex .f32 a1 a2))) := HB.out.drew.setCell (Nat.le_refl _) _
        go_wp2_with fail
        go_roundw
        case rel => first | exact ⟨k + 1, by omega, by go_num, HS2.out, HB2.out⟩ | ((repeat apply Exists.intro); exact ⟨⟨k + 1, by omega, by go_num, HS2.out, HB2.out⟩, rfl⟩)
        case measure => simp [intOf]; omega
    · obtain rfl : k = n := by omega
      have HR : Hid (RetO w (winF xs kind) (.returned (.tuple #[.slice (some ⟨w1.heap.size, 0, none⟩) k k, .bool true])) wr) := by
        show RetO _ _ _ _
        rw [HY.out]
        have h1 := HO.out
        rw [Nat.sub_self, List.replicate_zero, List.append_nil] at h1
        exact ⟨_, _, _, rfl, h1.mono HB1.out.size, HB1.out.trans (HB.out.mono HB1.out.size)⟩
      clear hb
      go_wp2_with fail
      go_ret2
      exact HR.out

set_option maxHeartbeats 2000000 in
theorem iMovedF (A : Option Addr) (n c : Nat) (xs : List C) (b : Int) (w : World) (hn : n ≤ 1048576) (hx : Cs w A n xs) :
    Calls Tryz.prog 112 #[.slice A n c, .int .i64 b] w (RetS w (movF xs b)) := by
  have hl := hx.len
  have HC : Hid (∀ w, Cs w A n xs → Calls Tryz.prog 43 #[.slice A n c] w fun e w' => e = .returned (.bool (sigB xs)) ∧ Dr w w') := fun w h => iSignalOk A n c xs w (by omega) h
  cases hs : sigB xs
  · rw [hs] at HC
    have HN := Lib.hid (movF_no (b := b) (.inl hs))
    clear hl hs
    go_enter Tryz.func112, Tryz.ntmps112
    go_wp2_with fail
    refine (HC.out _ hx).mono ?_
    rintro e w' ⟨rfl, m, rfl⟩
    go_wp2_with fail
    go_ret
    rw [HN.out]
    exact RetS.nil_ (below_drewN (Below.refl _ _) m)
  by_cases hin : inB b (-99) 99 = true
  · rw [movF_yes hl hs hin]
    obtain ⟨h1, h2⟩ := inB_iff.1 hin
    exact iMoved A n c xs b w hx hs h1 h2
  · have hin' : inB b (-99) 99 = false := by simpa using hin
    rw [hs] at HC
    have HN := Lib.hid (movF_no (xs := xs) (.inr hin'))
    have hb : b < -99 ∨ (¬ b < -99 ∧ b > 99) := by rw [inB_false_iff] at hin'; omega
    clear hl hs hin hin'
    rcases hb with hb | ⟨hb, hb2⟩
    all_goals
      go_enter Tryz.func112, Tryz.ntmps112
      go_wp2_with fail
      refine (HC.out _ hx).mono ?_
      rintro e w' ⟨rfl, m, rfl⟩
      go_wp2_with fail
      go_ret
      rw [HN.out]
      exact RetS.nil_ (below_drewN (Below.refl _ _) m)
end Go.Proofs.YtnomlkkhkacajaaGreatDoor
namespace Go.Proofs.YtnomlkkhkacajaaGreatDoor
open Go.RowKit
open Go.Lib hiding intOf

/-- What a deed makes of a signal. -/
def madF (x : List C) (a : Dd) : Option (List C) :=
  if a.kind = 0 then (if a.num = 0 then (readSig a.text).map mils else none)
  else if a.kind = 1 then (if a.num = 0 ∧ a.text = [] then transF x else none)
  else if a.kind = 2 then (if a.num = 0 ∧ a.text = [] then backF x else none)
  else if a.kind = 3 then (if a.text = [] ∧ movF x a.num ≠ [] then some (movF x a.num) else none)
  else if a.kind = 4 then (if a.text = [] then shiF x a.num else none)
  else if a.kind = 5 then (if a.text = [] then winF x a.num else none)
  else none
theorem madF0 (x : List C) (t : Txt) : madF x ⟨0, 0, t⟩ = (readSig t).map mils := rfl
theorem madF0n (x : List C) {n : Int} (t : Txt) (h : ¬ n = 0) : madF x ⟨0, n, t⟩ = none := by unfold madF; rw [if_pos rfl, if_neg h]
theorem madF1 (x : List C) : madF x ⟨1, 0, []⟩ = transF x := rfl
theorem madF2 (x : List C) : madF x ⟨2, 0, []⟩ = backF x := rfl
theorem madF12 (x : List C) {k n : Int} {t : Txt} (hk : k = 1 ∨ k = 2) (h : ¬ (n = 0 ∧ t = [])) : madF x ⟨k, n, t⟩ = none := by
  rcases hk with rfl | rfl <;> (unfold madF; simp [h])
theorem madF3 (x : List C) (n : Int) (h : movF x n ≠ []) : madF x ⟨3, n, []⟩ = some (movF x n) := by unfold madF; simp [h]
theorem madF3n (x : List C) (n : Int) (h : movF x n = []) : madF x ⟨3, n, []⟩ = none := by unfold madF; simp [h]
theorem madF4 (x : List C) (n : Int) : madF x ⟨4, n, []⟩ = shiF x n := rfl
theorem madF5 (x : List C) (n : Int) : madF x ⟨5, n, []⟩ = winF x n := rfl
theorem madF35 (x : List C) {k : Int} (n : Int) {t : Txt} (hk : k = 3 ∨ k = 4 ∨ k = 5) (h : ¬ t = []) : madF x ⟨k, n, t⟩ = none := by
  rcases hk with rfl | rfl | rfl <;> (unfold madF; simp [h])
theorem madFo (x : List C) {k : Int} (n : Int) (t : Txt) (h : ¬ (0 ≤ k ∧ k ≤ 5)) : madF x ⟨k, n, t⟩ = none := by
  unfold madF; simp only []; rw [if_neg (by omega), if_neg (by omega), if_neg (by omega), if_neg (by omega), if_neg (by omega), if_neg (by omega)]
/-- The numbers of a signal are not too great for the next deed. -/
def LvOk (x : List C) : Prop := ∃ a : Int, Lv x a ∧ -149 ≤ a ∧ a ≤ 117
theorem LvOk.prod {x : List C} (h : LvOk x) (s : Int) : ProdOk x s := by obtain ⟨a, h1, h2, h3⟩ := h; exact h1.prodOk h2 (by omega) s
theorem LvOk.small {x : List C} (h : LvOk x) : Small x := by obtain ⟨a, h1, h2, h3⟩ := h; exact h1.small (by omega)

set_option maxHeartbeats 4000000 in
set_option maxRecDepth 100000 in
theorem sMade (A : Option Addr) (l c : Nat) (x : List C) (k n : Int) (t : Txt) (w : World) (hl : l ≤ 1048576) (hx : Cs w A l x) (hg : LvOk x) (ht : t.length ≤ 1073741824) :
    Calls Tryz.prog 40 #[.slice A l c, dv ⟨k, n, t⟩] w (RetO w (madF x ⟨k, n, t⟩)) := by
  have hto := bs_nilB
  have hto2 := bs_toL
  have HX : Hid (Cs (w.alloc (.cells #[.int .i64 k, .int .i64 n, .string (bs t)] 28)) A l x) := hx.below (below_alloc _ _)
  have HB : Hid (Below w.heap.size w (w.alloc (.cells #[.int .i64 k, .int .i64 n, .string (bs t)] 28))) := below_alloc _ _
  have HNO : Hid (RetC w [] false (.returned (.tuple #[.slice (some ⟨w.heap.size + 1, 0, none⟩) 0 0, .bool false])) ((w.alloc (.cells #[.int .i64 k, .int .i64 n, .string (bs t)] 28)).alloc (.cells #[] 73))) := by
    have h := Ow.empty (w.alloc (.cells #[.int .i64 k, .int .i64 n, .string (bs t)] 28)) 73
    rw [size_alloc] at h
    exact RetC.empty (h.mono (by omega)) (HB.out.alloc (by rw [size_alloc]; omega) _)
  have HT : Hid (∀ w, Cs w A l x → Calls Tryz.prog 82 #[.slice A l c] w (RetO w (transF x))) := fun w h => sTransform A l c x w hl h fun _ => hg.prod _
  have HK : Hid (∀ w, Cs w A l x → Calls Tryz.prog 83 #[.slice A l c] w (RetO w (backF x))) := fun w h => sBack A l c x w hl h fun _ => hg.prod _
  have HM : Hid (∀ w, Cs w A l x → Calls Tryz.prog 84 #[.slice A l c, .int .i64 n] w (RetS w (movF x n))) := fun w h => sMoved A l c x n w hl h
  have HS : Hid (∀ w, Cs w A l x → Calls Tryz.prog 85 #[.slice A l c, .int .i64 n] w (RetO w (shiF x n))) := fun w h => sShifted A l c x n w hl h fun _ => hg.small
  have HW : Hid (∀ w, Cs w A l x → Calls Tryz.prog 86 #[.slice A l c, .int .i64 n] w (RetO w (winF x n))) := fun w h => sWindowed A l c x n w hl h
  have HR : Hid (∀ w, Calls Tryz.prog 81 #[.string (bs t)] w (RetO w ((readSig t).map mils))) := fun w => sReadSignal t ht w
  clear hx hg ht
  unfold dv
  rcases kind_cases k with rfl | rfl | rfl | rfl | rfl | rfl | rfl | ⟨⟨b0, b1, b2, b3, b4, b5, b6⟩, hw, h7⟩
  · by_cases hn : n = 0
    · subst hn
      by_cases ht : t = []
      · subst ht
        have HD := Lib.hid (madF0 x [])
        go_enter Tryz.func40, Tryz.ntmps40
        go_wp2_with fail
        refine (HR.out _).mono ?_
        rintro e w1 hr
        have hr2 := RetC.trans' hr HB.out
        rw [← HD.out] at hr2
        obtain ⟨A1, m1, c1, rfl, ho, hb⟩ := hr2
        have HQ : Hid (RetO w (madF x _) (.returned (.tuple #[.slice A1 m1 c1, .bool _])) w1) := ⟨A1, m1, c1, rfl, ho, hb⟩
        clear hr ho hb
        go_wp2_with fail
        go_ret2
        exact HQ.out
      · have ht2 : t.isEmpty = false := by simpa using ht
        clear ht
        have HD := Lib.hid (madF0 x t)
        go_enter Tryz.func40, Tryz.ntmps40
        go_wp2_with fail
        refine (HR.out _).mono ?_
        rintro e w1 hr
        have hr2 := RetC.trans' hr HB.out
        rw [← HD.out] at hr2
        obtain ⟨A1, m1, c1, rfl, ho, hb⟩ := hr2
        have HQ : Hid (RetO w (madF x _) (.returned (.tuple #[.slice A1 m1 c1, .bool _])) w1) := ⟨A1, m1, c1, rfl, ho, hb⟩
        clear hr ho hb
        go_wp2_with fail
        go_ret2
        exact HQ.out
    · have hb : (n == 0) = false := by rw [beq_eq_false_iff_ne]; exact hn
      by_cases ht : t = []
      · subst ht
        have HD := Lib.hid (madF0n x [] hn)
        go_enter Tryz.func40, Tryz.ntmps40
        go_wp2_with fail
        go_ret2
        show RetO _ _ _ _
        rw [HD.out]
        exact HNO.out
      · have ht2 : t.isEmpty = false := by simpa using ht
        clear ht
        have HD := Lib.hid (madF0n x t hn)
        go_enter Tryz.func40, Tryz.ntmps40
        go_wp2_with fail
        go_ret2
        show RetO _ _ _ _
        rw [HD.out]
        exact HNO.out
  · by_cases ht : t = []
    · subst ht
      by_cases hn : n = 0
      · subst hn
        have HD := Lib.hid (madF1 x)
        go_enter Tryz.func40, Tryz.ntmps40
        go_wp2_with fail
        refine (HT.out _ HX.out).mono ?_
        rintro e w1 hr
        have hr2 := RetC.trans' hr HB.out
        rw [← HD.out] at hr2
        obtain ⟨A1, m1, c1, rfl, ho, hb⟩ := hr2
        have HQ : Hid (RetO w (madF x _) (.returned (.tuple #[.slice A1 m1 c1, .bool _])) w1) := ⟨A1, m1, c1, rfl, ho, hb⟩
        clear hr ho hb
        go_wp2_with fail
        go_ret2
        exact HQ.out
      · have hb : (n == 0) = false := by rw [beq_eq_false_iff_ne]; exact hn
        have HD := Lib.hid (madF12 x (k := 1) (t := []) (by decide) (fun h => hn h.1))
        go_enter Tryz.func40, Tryz.ntmps40
        go_wp2_with fail
        go_ret2
        show RetO _ _ _ _
        rw [HD.out]
        exact HNO.out
    · have ht2 : t.isEmpty = false := by simpa using ht
      have HD0 := Lib.hid (madF12 x (k := 1) (n := n) (t := t) (by decide) (fun h => ht h.2))
      clear ht
      have HD := Lib.hid (HD0.out)
      go_enter Tryz.func40, Tryz.ntmps40
      go_wp2_with fail
      go_ret2
      show RetO _ _ _ _
      rw [HD.out]
      exact HNO.out
  · by_cases ht : t = []
    · subst ht
      by_cases hn : n = 0
      · subst hn
        have HD := Lib.hid (madF2 x)
        go_enter Tryz.func40, Tryz.ntmps40
        go_wp2_with fail
        refine (HK.out _ HX.out).mono ?_
        rintro e w1 hr
        have hr2 := RetC.trans' hr HB.out
        rw [← HD.out] at hr2
        obtain ⟨A1, m1, c1, rfl, ho, hb⟩ := hr2
        have HQ : Hid (RetO w (madF x _) (.returned (.tuple #[.slice A1 m1 c1, .bool _])) w1) := ⟨A1, m1, c1, rfl, ho, hb⟩
        clear hr ho hb
        go_wp2_with fail
        go_ret2
        exact HQ.out
      · have hb : (n == 0) = false := by rw [beq_eq_false_iff_ne]; exact hn
        have HD := Lib.hid (madF12 x (k := 2) (t := []) (by decide) (fun h => hn h.1))
        go_enter Tryz.func40, Tryz.ntmps40
        go_wp2_with fail
        go_ret2
        show RetO _ _ _ _
        rw [HD.out]
        exact HNO.out
    · have ht2 : t.isEmpty = false := by simpa using ht
      have HD0 := Lib.hid (madF12 x (k := 2) (n := n) (t := t) (by decide) (fun h => ht h.2))
      clear ht
      have HD := Lib.hid (HD0.out)
      go_enter Tryz.func40, Tryz.ntmps40
      go_wp2_with fail
      go_ret2
      show RetO _ _ _ _
      rw [HD.out]
      exact HNO.out
  · by_cases ht : t = []
    · subst ht
      by_cases hm : movF x n = []
      · have HD := Lib.hid (madF3n x n hm)
        rw [hm] at HM
        clear hm
        go_enter Tryz.func40, Tryz.ntmps40
        go_wp2_with fail
        refine (HM.out _ HX.out).mono ?_
        rintro e w1 ⟨A1, m1, c1, rfl, ho, hb⟩
        obtain rfl : m1 = 0 := by have := ho.len; simpa using this.symm
        have HQ : Hid (RetO w (madF x ⟨3, n, []⟩) (.returned (.tuple #[.slice A1 0 c1, .bool false])) w1) := by
          show RetO _ _ _ _
          rw [HD.out]
          exact ⟨A1, 0, c1, rfl, ho.mono HB.out.size, HB.out.trans (hb.mono HB.out.size)⟩
        clear ho hb
        go_wp2_with fail
        go_ret2
        exact HQ.out
      · have HD := Lib.hid (madF3 x n hm)
        have hpos : 0 < (movF x n).length := by cases h : movF x n with | nil => exact absurd h hm | cons a b => simp
        have HPO := Lib.hid hpos
        clear hm hpos
        go_enter Tryz.func40, Tryz.ntmps40
        go_wp2_with fail
        refine (HM.out _ HX.out).mono ?_
        rintro e w1 ⟨A1, m1, c1, rfl, ho, hb⟩
        have hm1 : (0 : Int) < (m1 : Int) := by have h1 := ho.len; have h2 := HPO.out; rw [List.length_map] at h1; omega
        have HQ : Hid (RetO w (madF x ⟨3, n, []⟩) (.returned (.tuple #[.slice A1 m1 c1, .bool (decide (0 < m1))])) w1) := by
          show RetO _ _ _ _
          rw [HD.out, decide_eq_true (show 0 < m1 by omega)]
          exact ⟨A1, m1, c1, rfl, ho.mono HB.out.size, HB.out.trans (hb.mono HB.out.size)⟩
        clear ho hb
        go_wp2_with fail
        go_ret2
        exact HQ.out
    · have ht2 : t.isEmpty = false := by simpa using ht
      have HD0 := Lib.hid (madF35 x (k := 3) n (t := t) (by decide) ht)
      clear ht
      have HD := Lib.hid (HD0.out)
      go_enter Tryz.func40, Tryz.ntmps40
      go_wp2_with fail
      go_ret2
      show RetO _ _ _ _
      rw [HD.out]
      exact HNO.out
  · by_cases ht : t = []
    · subst ht
      have HD := Lib.hid (madF4 x n)
      go_enter Tryz.func40, Tryz.ntmps40
      go_wp2_with fail
      refine (HS.out _ HX.out).mono ?_
      rintro e w1 hr
      have hr2 := RetC.trans' hr HB.out
      rw [← HD.out] at hr2
      obtain ⟨A1, m1, c1, rfl, ho, hb⟩ := hr2
      have HQ : Hid (RetO w (madF x _) (.returned (.tuple #[.slice A1 m1 c1, .bool _])) w1) := ⟨A1, m1, c1, rfl, ho, hb⟩
      clear hr ho hb
      go_wp2_with fail
      go_ret2
      exact HQ.out
    · have ht2 : t.isEmpty = false := by simpa using ht
      have HD0 := Lib.hid (madF35 x (k := 4) n (t := t) (by decide) ht)
      clear ht
      have HD := Lib.hid (HD0.out)
      go_enter Tryz.func40, Tryz.ntmps40
      go_wp2_with fail
      go_ret2
      show RetO _ _ _ _
      rw [HD.out]
      exact HNO.out
  · by_cases ht : t = []
    · subst ht
      have HD := Lib.hid (madF5 x n)
      go_enter Tryz.func40, Tryz.ntmps40
      go_wp2_with fail
      refine (HW.out _ HX.out).mono ?_
      rintro e w1 hr
      have hr2 := RetC.trans' hr HB.out
      rw [← HD.out] at hr2
      obtain ⟨A1, m1, c1, rfl, ho, hb⟩ := hr2
      have HQ : Hid (RetO w (madF x _) (.returned (.tuple #[.slice A1 m1 c1, .bool _])) w1) := ⟨A1, m1, c1, rfl, ho, hb⟩
      clear hr ho hb
      go_wp2_with fail
      go_ret2
      exact HQ.out
    · have ht2 : t.isEmpty = false := by simpa using ht
      have HD0 := Lib.hid (madF35 x (k := 5) n (t := t) (by decide) ht)
      clear ht
      have HD := Lib.hid (HD0.out)
      go_enter Tryz.func40, Tryz.ntmps40
      go_wp2_with fail
      go_ret2
      show RetO _ _ _ _
      rw [HD.out]
      exact HNO.out
  · have HD0 := Lib.hid (madFo x (k := 6) n t (by decide))
    by_cases ht : t = []
    · subst ht
      by_cases hn : n = 0
      · subst hn
        have HD := Lib.hid (HD0.out)
        go_enter Tryz.func40, Tryz.ntmps40
        go_wp2_with fail
        go_ret2
        show RetO _ _ _ _
        rw [HD.out]
        exact HNO.out
      · have hb : (n == 0) = false := by rw [beq_eq_false_iff_ne]; exact hn
        have HD := Lib.hid (HD0.out)
        go_enter Tryz.func40, Tryz.ntmps40
        go_wp2_with fail
        go_ret2
        show RetO _ _ _ _
        rw [HD.out]
        exact HNO.out
    · have ht2 : t.isEmpty = false := by simpa using ht
      clear ht
      have HD := Lib.hid (HD0.out)
      go_enter Tryz.func40, Tryz.ntmps40
      go_wp2_with fail
      go_ret2
      show RetO _ _ _ _
      rw [HD.out]
      exact HNO.out
  · have HD0 := Lib.hid (madFo x (k := k) n t (by omega))
    clear hw h7
    by_cases ht : t = []
    · subst ht
      by_cases hn : n = 0
      · subst hn
        have HD := Lib.hid (HD0.out)
        go_enter Tryz.func40, Tryz.ntmps40
        go_wp2_with fail
        go_ret2
        show RetO _ _ _ _
        rw [HD.out]
        exact HNO.out
      · have hb : (n == 0) = false := by rw [beq_eq_false_iff_ne]; exact hn
        have HD := Lib.hid (HD0.out)
        go_enter Tryz.func40, Tryz.ntmps40
        go_wp2_with fail
        go_ret2
        show RetO _ _ _ _
        rw [HD.out]
        exact HNO.out
    · have ht2 : t.isEmpty = false := by simpa using ht
      clear ht
      have HD := Lib.hid (HD0.out)
      go_enter Tryz.func40, Tryz.ntmps40
      go_wp2_with fail
      go_ret2
      show RetO _ _ _ _
      rw [HD.out]
      exact HNO.out
end Go.Proofs.YtnomlkkhkacajaaGreatDoor
namespace Go.Proofs.YtnomlkkhkacajaaGreatDoor
open Go.RowKit

set_option maxHeartbeats 2000000 in
set_option maxRecDepth 100000 in
theorem sDeskOk (A A' : Option Addr) (n c m c' : Nat) (d : Dk) (w : World) (hd : DkV w 0 A n c A' m d) (hz : DkS d) :
    Calls Tryz.prog 17 #[.agg #[.slice A n c, .slice A' m c']] w fun e w' => e = .returned (.bool (dkB d)) ∧ Below w.heap.size w w' := by
  have HX := Lib.hid hd.now.cs
  have HP := Lib.hid hd.past
  have hl := hd.past.len
  have hnl := hd.now.len
  have hm9 : m ≤ 9 := by have := hz.len; omega
  have hn17 : n ≤ 17 := by have := hz.now; omega
  have HC : Hid (∀ w, Cs w A n d.now → Calls Tryz.prog 47 #[.slice A n c] w fun e w' => e = .returned (.bool (sigB d.now)) ∧ Dr w w') := fun w h => sSignalOk A n c d.now w (by omega) h
  have HZ := Lib.hid hz
  have HL := Lib.hid hl
  clear hd hz hl hnl
  go_enter Tryz.func17, Tryz.ntmps17
  go_wp2_with fail
  go_loopw [3] (fun i wr => ∃ k : Nat, k ≤ m ∧ i = .int .i64 k ∧ (d.past.take k).all sigB = true ∧ Below (w.heap.size + 1) (w.alloc (.cells #[.slice A n c, .slice A' m c'] 26)) wr) (fun i _ => m - (intOf i).toNat)
  case atStart => exact ⟨0, by omega, rfl, rfl, Below.refl _ _⟩
  case round =>
    obtain ⟨k, hk, rfl, hall, hb⟩ := hrel
    obtain ⟨c0, c1, hbw⟩ := desk_box hb
    have HA := Lib.hid hall
    have HB := Lib.hid hb
    have HBW := Lib.hid hbw
    clear hall
    by_cases hlt : k < m
    · obtain ⟨b, o, x, A2, n2, c2, rfl, hbl, hx, hc, hcs⟩ := HP.out.at_ hlt
      have hck := (hbw.cell (p := ⟨b, o + k, none⟩) hbl).trans hc
      have HCX := Lib.hid (hcs.below hbw).cs
      have hn2 : n2 ≤ 17 := by have h1 := hcs.len; have h2 := HZ.out.at_ hx; omega
      have HC2 : Hid (∀ w, Cs w A2 n2 x → Calls Tryz.prog 47 #[.slice A2 n2 c2] w fun e w' => e = .returned (.bool (sigB x)) ∧ Dr w w') := fun w h => sSignalOk A2 n2 c2 x w (by omega) h
      cases hsx : sigB x
      · rw [hsx] at HC2
        have HF := Lib.hid (dkB_past hx hsx)
        clear hb hbw hcs hc hx hsx
        go_wp2_with fail
        refine (HC2.out _ HCX.out).mono ?_
        rintro e w' ⟨rfl, q, rfl⟩
        go_wp2_with fail
        go_ret
        exact ⟨ret_bool HF.out.symm, below_drewN HBW.out q⟩
      · rw [hsx] at HC2
        have HT := Lib.hid (all_snoc HA.out hx hsx)
        clear hb hbw hcs hc hx hsx
        go_wp2_with fail
        refine (HC2.out _ HCX.out).mono ?_
        rintro e w' ⟨rfl, q, rfl⟩
        go_wp2_with fail
        go_roundw
        case rel => first | exact ⟨k + 1, by omega, by go_num, HT.out, below_drewN HB.out q⟩ | ((repeat apply Exists.intro); exact ⟨⟨k + 1, by omega, by go_num, HT.out, below_drewN HB.out q⟩, rfl⟩)
        case measure => simp [intOf]; omega
    · obtain rfl : k = m := by omega
      have HCX := Lib.hid (HX.out.below hbw)
      have HALL : Hid (d.past.all sigB = true) := by have := HA.out; rwa [List.take_of_length_le (by have := HL.out; omega)] at this
      have HK : Hid (dkB d = (sigB d.now && decide (k ≤ 8))) := by show _ = _; unfold dkB; rw [HALL.out, Bool.and_true, HL.out]
      clear hb hbw
      cases hs : sigB d.now
      · rw [hs] at HC HK
        clear hs
        go_wp2_with fail
        refine (HC.out _ HCX.out).mono ?_
        rintro e w' ⟨rfl, q, rfl⟩
        go_wp2_with fail
        go_ret
        exact ⟨ret_bool HK.out.symm, below_drewN HBW.out q⟩
      · rw [hs] at HC HK
        clear hs
        go_wp2_with fail
        refine (HC.out _ HCX.out).mono ?_
        rintro e w' ⟨rfl, q, rfl⟩
        by_cases h8 : k ≤ 8
        · have h8i : (k : Int) ≤ 8 := by omega
          go_wp2_with fail
          go_ret
          exact ⟨ret_bool (by rw [HK.out, decide_eq_true h8]; rfl), below_drewN HBW.out q⟩
        · have h8i : ¬ (k : Int) ≤ 8 := by omega
          go_wp2_with fail
          go_ret
          exact ⟨ret_bool (by rw [HK.out, decide_eq_false h8]; first | rfl | (rw [decide_eq_false (Int.not_le.2 h8i)]; rfl)), below_drewN HBW.out q⟩

set_option maxHeartbeats 2000000 in
set_option maxRecDepth 100000 in
theorem iDeskOk (A A' : Option Addr) (n c m c' : Nat) (d : Dk) (w : World) (hd : DkV w 0 A n c A' m d) (hz : DkS d) :
    Calls Tryz.prog 12 #[.agg #[.slice A n c, .slice A' m c']] w fun e w' => e = .returned (.bool (dkB d)) ∧ Below w.heap.size w w' := by
  have HX := Lib.hid hd.now.cs
  have HP := Lib.hid hd.past
  have hl := hd.past.len
  have hnl := hd.now.len
  have hm9 : m ≤ 9 := by have := hz.len; omega
  have hn17 : n ≤ 17 := by have := hz.now; omega
  have HC : Hid (∀ w, Cs w A n d.now → Calls Tryz.prog 43 #[.slice A n c] w fun e w' => e = .returned (.bool (sigB d.now)) ∧ Dr w w') := fun w h => iSignalOk A n c d.now w (by omega) h
  have HCX : Hid (Cs (w.alloc (.cells #[.slice A n c, .slice A' m c'] 26)) A n d.now) := HX.out.below (below_alloc _ _)
  have HB0 : Hid (Below w.heap.size w (w.alloc (.cells #[.slice A n c, .slice A' m c'] 26))) := below_alloc _ _
  have HZ := Lib.hid hz
  have HL := Lib.hid hl
  cases hs : sigB d.now
  · have HF := Lib.hid (dkB_now hs)
    rw [hs] at HC
    clear hs hd hz hl hnl
    go_enter Tryz.func12, Tryz.ntmps12
    go_wp2_with fail
    refine (HC.out _ HCX.out).mono ?_
    rintro e w' ⟨rfl, q, rfl⟩
    go_wp2_with fail
    go_ret
    exact ⟨ret_bool HF.out.symm, below_drewN HB0.out q⟩
  rw [hs] at HC
  have HS := Lib.hid hs
  by_cases h8 : m ≤ 8
  case neg =>
    have HF := Lib.hid (dkB_len (d := d) (by omega))
    have h8i : (m : Int) > 8 := by omega
    clear hs hd hz hl hnl
    go_enter Tryz.func12, Tryz.ntmps12
    go_wp2_with fail
    refine (HC.out _ HCX.out).mono ?_
    rintro e w' ⟨rfl, q, rfl⟩
    go_wp2_with fail
    go_ret
    exact ⟨ret_bool HF.out.symm, below_drewN HB0.out q⟩
  have h8i : ¬ (m : Int) > 8 := by omega
  clear hs hd hz hl hnl
  go_enter Tryz.func12, Tryz.ntmps12
  go_wp2_with fail
  refine (HC.out _ HCX.out).mono ?_
  rintro e w' ⟨rfl, q, rfl⟩
  have HB1 : Hid (Below (w.heap.size + 1) (w.alloc (.cells #[.slice A n c, .slice A' m c'] 26)) ((w.alloc (.cells #[.slice A n c, .slice A' m c'] 26)).drewN q)) := below_drewN (Below.refl _ _) q
  go_wp2_with fail
  go_loopw [18] (fun i wr => ∃ k : Nat, k ≤ m ∧ i = .int .i64 k ∧ (d.past.take k).all sigB = true ∧ Below (w.heap.size + 1) (w.alloc (.cells #[.slice A n c, .slice A' m c'] 26)) wr) (fun i _ => m - (intOf i).toNat)
  case atStart => first | exact ⟨0, by omega, rfl, rfl, HB1.out⟩ | ((repeat apply Exists.intro); exact ⟨by omega, rfl, rfl, HB1.out⟩)
  case round =>
    obtain ⟨k, hk, rfl, hall, hb⟩ := hrel
    obtain ⟨c0, c1, hbw⟩ := desk_box hb
    have HA := Lib.hid hall
    have HB := Lib.hid hb
    have HBW := Lib.hid hbw
    clear hall
    by_cases hlt : k < m
    · obtain ⟨b, o, x, A2, n2, c2, rfl, hbl, hx, hc, hcs⟩ := HP.out.at_ hlt
      have hck := (hbw.cell (p := ⟨b, o + k, none⟩) hbl).trans hc
      have HCX2 := Lib.hid (hcs.below hbw).cs
      have hn2 : n2 ≤ 17 := by have h1 := hcs.len; have h2 := HZ.out.at_ hx; omega
      have HC2 : Hid (∀ w, Cs w A2 n2 x → Calls Tryz.prog 43 #[.slice A2 n2 c2] w fun e w' => e = .returned (.bool (sigB x)) ∧ Dr w w') := fun w h => iSignalOk A2 n2 c2 x w (by omega) h
      cases hsx : sigB x
      · rw [hsx] at HC2
        have HF := Lib.hid (dkB_past hx hsx)
        clear hb hbw hcs hc hx hsx
        go_wp2_with fail
        refine (HC2.out _ HCX2.out).mono ?_
        rintro e w' ⟨rfl, q, rfl⟩
        go_wp2_with fail
        go_ret
        exact ⟨ret_bool HF.out.symm, below_drewN HBW.out q⟩
      · rw [hsx] at HC2
        have HT := Lib.hid (all_snoc HA.out hx hsx)
        clear hb hbw hcs hc hx hsx
        go_wp2_with fail
        refine (HC2.out _ HCX2.out).mono ?_
        rintro e w' ⟨rfl, q, rfl⟩
        go_wp2_with fail
        go_roundw
        case rel => first | exact ⟨k + 1, by omega, by go_num, HT.out, below_drewN HB.out q⟩ | ((repeat apply Exists.intro); exact ⟨⟨k + 1, by omega, by go_num, HT.out, below_drewN HB.out q⟩, rfl⟩)
        case measure => simp [intOf]; omega
    · obtain rfl : k = m := by omega
      have HALL : Hid (d.past.all sigB = true) := by have := HA.out; rwa [List.take_of_length_le (by have := HL.out; omega)] at this
      have HK : Hid (dkB d = true) := by show _ = _; unfold dkB; rw [HALL.out, Bool.and_true, HL.out, HS.out, decide_eq_true h8]; rfl
      clear hb hbw
      go_wp2_with fail
      go_ret
      exact ⟨ret_bool HK.out.symm, HBW.out⟩
end Go.Proofs.YtnomlkkhkacajaaGreatDoor
namespace Go.Proofs.YtnomlkkhkacajaaGreatDoor
open Go.RowKit
open Go.Lib hiding intOf

theorem mils_fin (ps : List Pr) : (mils ps).all finB = true := by
  rw [List.all_eq_true]
  intro z hz
  obtain ⟨p, _, rfl⟩ := List.mem_map.1 hz
  exact milli_fin _ _
end Go.Proofs.YtnomlkkhkacajaaGreatDoor
namespace Go.Proofs.YtnomlkkhkacajaaGreatDoor
open Go.RowKit

end Go.Proofs.YtnomlkkhkacajaaGreatDoor
namespace Go.Proofs.YtnomlkkhkacajaaGreatDoor
open Go.RowKit
open Go.Lib hiding intOf

theorem mils_len (ps : List Pr) : (mils ps).length = ps.length := by unfold mils; rw [List.length_map]
theorem thoAll_mils : ∀ {ps : List Pr}, (∀ p ∈ ps, InR p) → thoAll (mils ps) = some ps
  | [], _ => rfl
  | p :: r, h => by
    have hp := h p List.mem_cons_self
    have hr := thoAll_mils (ps := r) fun q hq => h q (List.mem_cons_of_mem _ hq)
    show thoAll (milli p.1 p.2 :: mils r) = _
    unfold thoAll
    rw [tho_milli hp.1 hp.2.1 hp.2.2.1 hp.2.2.2, hr]
    rfl
theorem sigB_mils {ps : List Pr} (h : ps.length ≤ 16) : sigB (mils ps) = true := by
  unfold sigB
  rw [mils_fin, mils_len, decide_eq_true h]; rfl
theorem sigT_mils {ps : List Pr} (h : ∀ p ∈ ps, InR p) (hl : ps.length ≤ 16) : sigT (mils ps) = some (sigText ps) :=
  sigT_yes (sigB_mils hl) (thoAll_mils h)
end Go.Proofs.YtnomlkkhkacajaaGreatDoor
namespace Go.Proofs.YtnomlkkhkacajaaGreatDoor
open Go.RowKit
open Go.Lib hiding intOf

theorem sigT_len (xs : List C) : ((sigT xs).getD []).length ≤ 705 := by
  cases h : sigT xs with
  | none => simp
  | some t =>
    obtain ⟨_, ps, _, rfl, h4, h5⟩ := sigT_some h
    have := sigText_len h4
    simp only [Option.getD_some]; omega
theorem Rd.drew {w : World} {g p : Nat} (h : Rd w g p) : Rd w.drew g p := h.drewN 1
end Go.Proofs.YtnomlkkhkacajaaGreatDoor
