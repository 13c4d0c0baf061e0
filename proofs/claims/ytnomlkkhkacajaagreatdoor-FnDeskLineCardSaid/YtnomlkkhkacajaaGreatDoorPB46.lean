/- Texts on the way to a law (H15, H16, H17, H18), each with its own remark. -/
import Derived.Test.YtnomlkkhkacajaaGreatDoorPB45
import Derived.Test.YtnomlkkhkacajaaGreatDoorPB43
import Derived.Test.YtnomlkkhkacajaaGreatDoorPB34
import Derived.Test.YtnomlkkhkacajaaGreatDoorPB27
import Derived.Test.YtnomlkkhkacajaaGreatDoorPB24
import Derived.Test.YtnomlkkhkacajaaGreatDoorPB41
import Derived.Test.YtnomlkkhkacajaaGreatDoorPB38
import Derived.Deep.RegionHeld3
import Derived.Test.YtnomlkkhkacajaaGreatDoorPB32
import Derived.Test.YtnomlkkhkacajaaGreatDoorPB42
import Derived.Test.YtnomlkkhkacajaaGreatDoorPB26
namespace Go.Proofs.YtnomlkkhkacajaaGreatDoor
open Go.RowKit
open Go.Lib hiding intOf

/-- One number of a spectrum, if it is told. -/
def oneF (xs : List C) (k : Int) : Option C := if sizB xs = true ∧ 0 ≤ k ∧ k < (xs.length : Int) then sumT xs (bk xs.length (-k)) xs.length else none
theorem oneF_no {xs : List C} {k : Int} (h : sizB xs = false ∨ k < 0 ∨ (xs.length : Int) ≤ k) : oneF xs k = none := by
  unfold oneF
  rw [if_neg]
  rintro ⟨h1, h2, h3⟩
  rcases h with h | h | h
  · rw [h] at h1; cases h1
  · omega
  · omega
theorem oneF_yes {xs : List C} {k : Int} {n : Nat} (hl : xs.length = n) (h1 : sizB xs = true) (h2 : 0 ≤ k) (h3 : k < (n : Int)) : oneF xs k = sumT xs (bk n (-k)) n := by
  unfold oneF
  rw [hl, if_pos ⟨h1, h2, h3⟩]

set_option maxHeartbeats 1000000 in
theorem iOne (A : Option Addr) (n c : Nat) (xs : List C) (k : Int) (w : World) (hn : n ≤ 1048576) (hx : Cs w A n xs) (hp : sizB xs = true → ProdOk xs (-1)) :
    Calls Tryz.prog 96 #[.slice A n c, .int .i64 k] w (RetQ2 w (oneF xs k)) := by
  have hl := hx.len
  cases hs : sizB xs
  · have HC : Hid (∀ w, Cs w A n xs → Calls Tryz.prog 125 #[.slice A n c] w fun e w' => e = .returned (.bool false) ∧ Dr w w') := fun w h => by rw [← hs]; exact iSizeOk A n c xs w hn h
    have HN := Lib.hid (oneF_no (k := k) (.inl hs))
    clear hl hs hp
    go_enter Tryz.func96, Tryz.ntmps96
    go_wp2_with fail
    refine (HC.out _ hx).mono ?_
    rintro e w' ⟨rfl, m, rfl⟩
    go_wp2_with fail
    go_ret2
    rw [HN.out]
    exact ⟨rfl, below_drewN (Below.refl _ _) m⟩
  have HC : Hid (∀ w, Cs w A n xs → Calls Tryz.prog 125 #[.slice A n c] w fun e w' => e = .returned (.bool true) ∧ Dr w w') := fun w h => by rw [← hs]; exact iSizeOk A n c xs w hn h
  by_cases hk : k < 0 ∨ (¬ k < 0 ∧ (n : Int) ≤ k)
  · have HN := Lib.hid (oneF_no (xs := xs) (k := k) (by rw [hl]; omega))
    clear hl hs hp
    rcases hk with hk | ⟨hk, hk2⟩
    all_goals
      go_enter Tryz.func96, Tryz.ntmps96
      go_wp2_with fail
      refine (HC.out _ hx).mono ?_
      rintro e w' ⟨rfl, m, rfl⟩
      go_wp2_with fail
      go_ret2
      rw [HN.out]
      exact ⟨rfl, below_drewN (Below.refl _ _) m⟩
  obtain ⟨j, rfl⟩ := Int.eq_ofNat_of_zero_le (show 0 ≤ k by omega)
  have hjn : j < n := by omega
  have hk1 : ¬ (j : Int) < 0 := by omega
  have hk2 : ¬ (n : Int) ≤ (j : Int) := by omega
  obtain ⟨s1, s2, s3, s4, s5⟩ := siz_parts hs
  rw [hl] at s1 s4 s5
  have HY := Lib.hid (oneF_yes hl hs (show 0 ≤ (j : Int) by omega) (show (j : Int) < (n : Int) by omega))
  have HT : Hid (∀ w', Cs w' A n xs → Calls Tryz.prog 126 #[.slice A n c, .int .i64 (-(j : Int))] w' (RetQ2 w' (sumT xs (bk n (-(j : Int))) n))) := fun w' h => by
    obtain ⟨b1, b2⟩ := bk_bd s1 (k := -(j : Int)) (by omega) (by omega)
    refine iTurned A n c xs (-(j : Int)) (bk n (-(j : Int))) w' s5 s4 h s3 rfl b1 b2 fun i hi => ?_
    have := hp hs j i (by omega) (by omega)
    rw [hl, show (-1 : Int) * (j : Int) = -(j : Int) by omega] at this
    exact this
  have e1 : IntKind.i64.wrap (-(j : Int)) = -(j : Int) := IntWalk.i64_in _ (by omega)
  clear hl hs hp s1 s2 s3 hk
  go_enter Tryz.func96, Tryz.ntmps96
  go_wp2_with fail
  refine (HC.out _ hx).mono ?_
  rintro e w' ⟨rfl, m, rfl⟩
  have HX1 : Hid (Cs (w.drewN m) A n xs) := Cs.drewN hx m
  go_wp2_with fail
  refine (HT.out _ HX1.out).mono ?_
  rintro e w2 ⟨rfl, hb2⟩
  have HB2 : Hid (Below w.heap.size w w2) := (below_drewN (Below.refl _ _) m).trans hb2
  rw [← HY.out]
  generalize oneF xs (j : Int) = o at *
  clear hb2 hx
  unfold cv
  go_wp2_with fail
  go_ret2
  exact ⟨rfl, HB2.out⟩

set_option maxHeartbeats 1000000 in
theorem sOne (A : Option Addr) (n c : Nat) (xs : List C) (k : Int) (w : World) (hn : n ≤ 1048576) (hx : Cs w A n xs) (hp : sizB xs = true → ProdOk xs (-1)) :
    Calls Tryz.prog 59 #[.slice A n c, .int .i64 k] w (RetQ2 w (oneF xs k)) := by
  have hl := hx.len
  cases hs : sizB xs
  · have HC : Hid (∀ w, Cs w A n xs → Calls Tryz.prog 101 #[.slice A n c] w fun e w' => e = .returned (.bool false) ∧ Dr w w') := fun w h => by rw [← hs]; exact sSizeOk A n c xs w hn h
    have HN := Lib.hid (oneF_no (k := k) (.inl hs))
    clear hl hs hp
    go_enter Tryz.func59, Tryz.ntmps59
    go_wp2_with fail
    refine (HC.out _ hx).mono ?_
    rintro e w' ⟨rfl, m, rfl⟩
    go_wp2_with fail
    go_ret2
    rw [HN.out]
    exact ⟨rfl, below_drewN (Below.refl _ _) m⟩
  have HC : Hid (∀ w, Cs w A n xs → Calls Tryz.prog 101 #[.slice A n c] w fun e w' => e = .returned (.bool true) ∧ Dr w w') := fun w h => by rw [← hs]; exact sSizeOk A n c xs w hn h
  obtain ⟨s1, s2, s3, s4, s5⟩ := siz_parts hs
  rw [hl] at s1 s4 s5
  have e0 : IntKind.i64.wrap ((n : Int) - 1) = (n : Int) - 1 := IntWalk.i64_in _ (by omega)
  by_cases hk : k < 0 ∨ (n : Int) ≤ k
  · have HN := Lib.hid (oneF_no (xs := xs) (k := k) (by rw [hl]; exact .inr hk))
    have HIN : Hid (inB k 0 ((n : Int) - 1) = false) := inB_false_iff.2 (by omega)
    clear hl hs hp s1 s2 s3 hk
    go_enter Tryz.func59, Tryz.ntmps59
    go_wp2_with fail
    refine (HC.out _ hx).mono ?_
    rintro e w' ⟨rfl, m, rfl⟩
    go_wp2_with fail
    refine (l1In_any _ _ _ _).mono ?_
    rintro e w2 ⟨rfl, hw2⟩
    obtain rfl := hw2.symm
    rw [HIN.out]
    go_wp2_with fail
    go_ret2
    rw [HN.out]
    exact ⟨rfl, below_drewN (Below.refl _ _) m⟩
  obtain ⟨j, rfl⟩ := Int.eq_ofNat_of_zero_le (show 0 ≤ k by omega)
  have hjn : j < n := by omega
  have HIN : Hid (inB (j : Int) 0 ((n : Int) - 1) = true) := inB_iff.2 (by omega)
  have HY := Lib.hid (oneF_yes hl hs (show 0 ≤ (j : Int) by omega) (show (j : Int) < (n : Int) by omega))
  obtain ⟨b, hbe⟩ : ∃ b, b = bk n (-(j : Int)) := ⟨_, rfl⟩
  obtain ⟨b1, b2⟩ := bk_bd s1 (k := -(j : Int)) (by omega) (by omega)
  rw [← hbe] at HY b1 b2
  have HT : Hid (∀ w', Cs w' A n xs → Calls Tryz.prog 102 #[.slice A n c, .int .i64 b] w' (RetQ2 w' (sumT xs b n))) := fun w' h => by
    refine sSum A n c xs b w' s4 h s3 b1 b2 fun i hi => ?_
    have := hp hs j i (by omega) (by omega)
    rw [hl, show (-1 : Int) * (j : Int) = -(j : Int) by omega] at this
    rw [hbe]; exact this
  have e1 : IntKind.i64.wrap (-(j : Int)) = -(j : Int) := IntWalk.i64_in _ (by omega)
  have e2 : IntKind.i64.wrap (-(j : Int) * (16 / (n : Int))) = b := by
    have : -(j : Int) * (16 / (n : Int)) = b := by rw [hbe]; unfold bk; exact Int.mul_comm _ _
    rw [this]; exact IntWalk.i64_in _ (by omega)
  clear hl hs hp s1 s2 s3 hk hbe b1 b2
  go_enter Tryz.func59, Tryz.ntmps59
  go_wp2_with fail
  refine (HC.out _ hx).mono ?_
  rintro e w' ⟨rfl, m, rfl⟩
  have HX1 : Hid (Cs (w.drewN m) A n xs) := Cs.drewN hx m
  go_wp2_with fail
  refine (l1In_any _ _ _ _).mono ?_
  rintro e w2 ⟨rfl, hw2⟩
  obtain rfl := hw2.symm
  rw [HIN.out]
  go_wp2_with fail
  refine (HT.out _ HX1.out).mono ?_
  rintro e w2 ⟨rfl, hb2⟩
  have HB2 : Hid (Below w.heap.size w w2) := (below_drewN (Below.refl _ _) m).trans hb2
  rw [← HY.out]
  generalize oneF xs (j : Int) = o at *
  clear hb2 hx
  unfold cv
  go_wp2_with fail
  go_ret2
  exact ⟨rfl, HB2.out⟩
def tNone : Txt := [110, 111, 110, 101]
/-- A text, or none. -/
def orN (o : Option Txt) : Txt := o.getD tNone
theorem orN_any (t : Txt) (b : Bool) (w : World) : Calls Tryz.prog 94 #[.string (bs t), .bool b] w fun e w' => e = .returned (.string (bs (if b then t else tNone))) ∧ w' = w := by
  cases b
  all_goals
    go_enter Tryz.func94, Tryz.ntmps94
    go_wp2_with fail
    go_ret
    exact ⟨rfl, rfl⟩
theorem sOr_any (t : Txt) (b : Bool) (w : World) : Calls Tryz.prog 54 #[.string (bs t), .bool b] w fun e w' => e = .returned (.string (bs (if b then t else tNone))) ∧ w' = w := by
  cases b
  all_goals
    go_enter Tryz.func54, Tryz.ntmps54
    go_wp2_with fail
    go_ret
    exact ⟨rfl, rfl⟩
/-- Numbers, one behind the other. -/
def digT (is : List Int) : Txt := is.flatMap itoa
theorem digT_snoc {is : List Int} {k : Nat} {x : Int} (h : is[k]? = some x) : digT (is.take (k + 1)) = digT (is.take k) ++ itoa x := by
  unfold digT
  rw [List.take_add_one, h, List.flatMap_append]
  simp
theorem digT_len {is : List Int} (h : ∀ x ∈ is, -9999999 ≤ x ∧ x ≤ 9999999) : (digT is).length ≤ is.length * 21 := by
  induction is with
  | nil => exact Nat.zero_le _
  | cons a l ih =>
    have h1 := h a List.mem_cons_self
    have h2 := itoa_small a h1.1 h1.2
    have h3 := ih fun x hx => h x (List.mem_cons_of_mem _ hx)
    show ((a :: l).flatMap itoa).length ≤ _
    rw [List.flatMap_cons, List.length_append, List.length_cons]
    have : (l.flatMap itoa).length ≤ l.length * 21 := h3
    omega

set_option maxHeartbeats 1000000 in
set_option maxRecDepth 100000 in
theorem iDigitsOf (A : Option Addr) (n c : Nat) (is : List Int) (w : World) (hn : n ≤ 16) (hx : Sl w A n (is.map iv)) (hb : ∀ x ∈ is, -9999999 ≤ x ∧ x ≤ 9999999) (hE : EnvT w) :
    Calls Tryz.prog 99 #[.slice A n c] w fun e w' => e = .returned (.string (bs (digT is))) ∧ Below w.heap.size w w' := by
  have hl : is.length = n := by have := hx.len; rwa [List.length_map] at this
  have HE := Lib.hid hE
  have HX := Lib.hid hx
  have HBD := Lib.hid hb
  have HL := Lib.hid hl
  have HB0 : Hid (IsBuilder 101 5 w.heap.size w.heap.size (byteCells []) (w.alloc (.cells #[.pointer none, .slice none 0 0] 101))) :=
    .inl ⟨Nat.le_refl _, .slice none 0 0, heap_alloc_new w _, World.ownsRow_nil _ _ _ _, by simp [Value.ownBlock]⟩
  have HBW0 := Lib.hid (below_alloc w (.cells #[.pointer none, .slice none 0 0] 101))
  clear hx hb hE hl
  go_enter Tryz.func99, Tryz.ntmps99
  go_wp2_with fail
  go_loopw [8] (fun i wr => ∃ (k : Nat), k ≤ n ∧ i = .int .i64 k ∧ IsBuilder 101 5 w.heap.size w.heap.size (byteCells (digT (is.take k))) wr ∧ Below w.heap.size w wr) (fun i _ => n - (intOf i).toNat)
  case atStart => first | exact ⟨0, by omega, rfl, HB0.out, HBW0.out⟩ | ((repeat apply Exists.intro); exact ⟨by omega, rfl, HB0.out, HBW0.out⟩)
  case round =>
    obtain ⟨k, hk, rfl, hbu, hb⟩ := hrel
    have HBU := Lib.hid hbu
    have HB := Lib.hid hb
    clear hbu hb
    by_cases hlt : k < n
    · obtain ⟨b, o, rfl, hbl, hc⟩ := (Sl.below HX.out HB.out).int_at hlt
      have hck := hc k hlt
      obtain ⟨x, hxk⟩ : ∃ x, is[k]? = some x := ⟨_, List.getElem?_eq_getElem (by rw [HL.out]; exact hlt)⟩
      have hin : inth is k = x := by unfold inth; rw [List.getD_eq_getElem?_getD, hxk]; rfl
      have hxb := HBD.out x (List.mem_of_getElem? hxk)
      have HS := Lib.hid (digT_snoc hxk)
      have htl : (digT (is.take k)).length ≤ (is.take k).length * 21 := digT_len fun y hy => HBD.out y (List.mem_of_mem_take hy)
      have htk : (is.take k).length ≤ 16 := by rw [List.length_take]; omega
      have hit := itoa_small x hxb.1 hxb.2
      have HL1 : Hid ((byteCells (digT (is.take k))).length + (bs (itoa x)).size ≤ 140737488355328) := by show _ ≤ _; rw [byteCells_len, bs_size]; omega
      have HIT : Hid (∀ w, EnvT w → Calls Tryz.prog 68 #[.int .i64 x] w fun e w' => e = .returned (.string (bs (itoa x))) ∧ Below w.heap.size w w') := fun w h => iItoa x (by omega) (by omega) w h
      rw [hin] at hck
      clear hc hxk hin hxb htl htk hit
      go_wp2_with fail
      refine (HIT.out _ (HE.out.kp (Kp.below HB.out))).mono ?_
      rintro e w1 ⟨rfl, hb1⟩
      have HBU1 := Lib.hid (IsBuilder.below HBU.out hb1)
      have HB1 : Hid (Below w.heap.size w w1) := HB.out.trans (hb1.mono HB.out.size)
      clear hb1
      go_wp2_with fail
      refine (Tryz.Builder_WriteString w.heap.size w.heap.size (byteCells (digT (is.take k))) (bs (itoa x)) w1 HBU1.out HL1.out HB1.out.size).mono ?_
      rintro e w2 ⟨rfl, hbu2, hb2⟩
      have HBU2 : Hid (IsBuilder 101 5 w.heap.size w.heap.size (byteCells (digT (is.take (k + 1)))) w2) := by
        show IsBuilder _ _ _ _ _ _
        rw [HS.out, byteCells_append]
        exact .inr hbu2
      have HB2 : Hid (Below w.heap.size w w2) := HB1.out.trans hb2
      clear hbu2 hb2
      go_wp2_with fail
      go_roundw
      case rel => exact ⟨k + 1, by omega, by go_num, HBU2.out, HB2.out⟩
      case measure => simp [intOf]; omega
    · obtain rfl : k = n := by omega
      have HR : Hid (digT (is.take k) = digT is) := by show _ = _; rw [List.take_of_length_le (by rw [HL.out]; exact Nat.le_refl _)]
      go_wp2_with fail
      refine (Tryz.Builder_String_any w.heap.size w.heap.size (digT (is.take k)) wr HBU.out HB.out.size).mono ?_
      rintro e w' ⟨rfl, hb'⟩
      go_wp2_with fail
      go_ret
      exact ⟨by rw [← HR.out]; rfl, HB.out.trans hb'⟩
end Go.Proofs.YtnomlkkhkacajaaGreatDoor
namespace Go.Proofs.YtnomlkkhkacajaaGreatDoor
open Go.RowKit
open Go.Lib hiding intOf

def tWhat : Txt := [119, 104, 97, 116]
/-- Numbers of tones as an answer. -/
def tonT (is : List Int) : Txt := if is = [] then tNone else digT is
/-- The answer to a line that asks for a number of something. -/
noncomputable def askF (d : Dk) (word : Txt) (v : Int) : Txt :=
  if (word == [110, 117, 109, 98, 101, 114]) = true then orN ((oneF d.now v).bind zText) else if (word == [116, 111, 110, 101, 115]) = true then tonT (tonsO pwI d.now v) else tWhat
/-- The answer to a line that is no deed. -/
noncomputable def ansF (d : Dk) (l : Txt) : Txt :=
  if (l == [112, 111, 105, 110, 116, 115]) = true then itoa d.now.length
  else if (l == [112, 97, 115, 116]) = true then itoa d.past.length
  else if (l == [115, 105, 103, 110, 97, 108]) = true then orN (sigT d.now)
  else if (l == [103, 114, 101, 97, 116, 101, 115, 116]) = true then orN ((greO pwI d.now).map fun (k : Nat) => itoa (k : Int))
  else match whole? (cut1 32 l).2.1 0 9999 with
    | none => tWhat
    | some v => askF d (cut1 32 l).1 v
theorem nb {b : Bool} (h : b = false) : ¬ b = true := by rw [h]; exact Bool.false_ne_true
theorem ansF_points {d : Dk} {l : Txt} (h : (l == [112, 111, 105, 110, 116, 115]) = true) : ansF d l = itoa d.now.length := by unfold ansF; rw [if_pos h]
theorem ansF_past {d : Dk} {l : Txt} (h1 : (l == [112, 111, 105, 110, 116, 115]) = false) (h : (l == [112, 97, 115, 116]) = true) : ansF d l = itoa d.past.length := by unfold ansF; rw [if_neg (nb h1), if_pos h]
theorem ansF_signal {d : Dk} {l : Txt} (h1 : (l == [112, 111, 105, 110, 116, 115]) = false) (h2 : (l == [112, 97, 115, 116]) = false) (h : (l == [115, 105, 103, 110, 97, 108]) = true) : ansF d l = orN (sigT d.now) := by unfold ansF; rw [if_neg (nb h1), if_neg (nb h2), if_pos h]
theorem ansF_greatest {d : Dk} {l : Txt} (h1 : (l == [112, 111, 105, 110, 116, 115]) = false) (h2 : (l == [112, 97, 115, 116]) = false) (h3 : (l == [115, 105, 103, 110, 97, 108]) = false) (h : (l == [103, 114, 101, 97, 116, 101, 115, 116]) = true) : ansF d l = orN ((greO pwI d.now).map fun (k : Nat) => itoa (k : Int)) := by unfold ansF; rw [if_neg (nb h1), if_neg (nb h2), if_neg (nb h3), if_pos h]
theorem ansF_none {d : Dk} {l : Txt} (h1 : (l == [112, 111, 105, 110, 116, 115]) = false) (h2 : (l == [112, 97, 115, 116]) = false) (h3 : (l == [115, 105, 103, 110, 97, 108]) = false) (h4 : (l == [103, 114, 101, 97, 116, 101, 115, 116]) = false) (h : whole? (cut1 32 l).2.1 0 9999 = none) : ansF d l = tWhat := by unfold ansF; rw [if_neg (nb h1), if_neg (nb h2), if_neg (nb h3), if_neg (nb h4), h]
theorem ansF_some {d : Dk} {l : Txt} {v : Int} (h1 : (l == [112, 111, 105, 110, 116, 115]) = false) (h2 : (l == [112, 97, 115, 116]) = false) (h3 : (l == [115, 105, 103, 110, 97, 108]) = false) (h4 : (l == [103, 114, 101, 97, 116, 101, 115, 116]) = false) (h : whole? (cut1 32 l).2.1 0 9999 = some v) : ansF d l = askF d (cut1 32 l).1 v := by unfold ansF; rw [if_neg (nb h1), if_neg (nb h2), if_neg (nb h3), if_neg (nb h4), h]
theorem askF_number {d : Dk} {t : Txt} {v : Int} (h : (t == [110, 117, 109, 98, 101, 114]) = true) : askF d t v = orN ((oneF d.now v).bind zText) := by unfold askF; rw [if_pos h]
theorem askF_tones {d : Dk} {t : Txt} {v : Int} (h1 : (t == [110, 117, 109, 98, 101, 114]) = false) (h : (t == [116, 111, 110, 101, 115]) = true) : askF d t v = tonT (tonsO pwI d.now v) := by unfold askF; rw [if_neg (nb h1), if_pos h]
theorem askF_not {d : Dk} {t : Txt} {v : Int} (h1 : (t == [110, 117, 109, 98, 101, 114]) = false) (h : (t == [116, 111, 110, 101, 115]) = false) : askF d t v = tWhat := by unfold askF; rw [if_neg (nb h1), if_neg (nb h)]
/-- The four lines that ask for something of their own. -/
theorem line_cases (l : Txt) : (l == [112, 111, 105, 110, 116, 115]) = true ∨ ((l == [112, 111, 105, 110, 116, 115]) = false ∧ (l == [112, 97, 115, 116]) = true ∧ (l == [115, 105, 103, 110, 97, 108]) = false ∧ (l == [103, 114, 101, 97, 116, 101, 115, 116]) = false) ∨ ((l == [112, 111, 105, 110, 116, 115]) = false ∧ (l == [112, 97, 115, 116]) = false ∧ (l == [115, 105, 103, 110, 97, 108]) = true ∧ (l == [103, 114, 101, 97, 116, 101, 115, 116]) = false) ∨ ((l == [112, 111, 105, 110, 116, 115]) = false ∧ (l == [112, 97, 115, 116]) = false ∧ (l == [115, 105, 103, 110, 97, 108]) = false ∧ (l == [103, 114, 101, 97, 116, 101, 115, 116]) = true) ∨ ((l == [112, 111, 105, 110, 116, 115]) = false ∧ (l == [112, 97, 115, 116]) = false ∧ (l == [115, 105, 103, 110, 97, 108]) = false ∧ (l == [103, 114, 101, 97, 116, 101, 115, 116]) = false) := by
  by_cases h1 : l = [112, 111, 105, 110, 116, 115]
  · exact .inl (beq_iff_eq.2 h1)
  by_cases h2 : l = [112, 97, 115, 116]
  · subst h2; exact .inr (.inl (by decide))
  by_cases h3 : l = [115, 105, 103, 110, 97, 108]
  · subst h3; exact .inr (.inr (.inl (by decide)))
  by_cases h4 : l = [103, 114, 101, 97, 116, 101, 115, 116]
  · subst h4; exact .inr (.inr (.inr (.inl (by decide))))
  exact .inr (.inr (.inr (.inr ⟨beq_eq_false_iff_ne.2 h1, beq_eq_false_iff_ne.2 h2, beq_eq_false_iff_ne.2 h3, beq_eq_false_iff_ne.2 h4⟩)))
theorem word_cases (t : Txt) : ((t == [110, 117, 109, 98, 101, 114]) = true ∧ (t == [116, 111, 110, 101, 115]) = false) ∨ ((t == [110, 117, 109, 98, 101, 114]) = false ∧ (t == [116, 111, 110, 101, 115]) = true) ∨ ((t == [110, 117, 109, 98, 101, 114]) = false ∧ (t == [116, 111, 110, 101, 115]) = false) := by
  by_cases h1 : t = [110, 117, 109, 98, 101, 114]
  · subst h1; exact .inl (by decide)
  by_cases h2 : t = [116, 111, 110, 101, 115]
  · subst h2; exact .inr (.inl (by decide))
  exact .inr (.inr ⟨beq_eq_false_iff_ne.2 h1, beq_eq_false_iff_ne.2 h2⟩)
theorem LvOk.good {x : List C} (h : LvOk x) : Good x := by obtain ⟨a, h1, h2, h3⟩ := h; exact h1.good h2 (by omega)
theorem tonsO_bd (f : C → Nat) (xs : List C) (m : Int) : ∀ x ∈ tonsO f xs m, -9999999 ≤ x ∧ x ≤ 9999999 := fun x hx => by
  unfold tonsO at hx
  split at hx
  · cases hx
  · split at hx
    · unfold tonsL at hx
      obtain ⟨k, _, rfl⟩ := List.mem_map.1 hx
      cases tonI _ _ _ _ <;> decide
    · cases hx
theorem tonsO_len {f : C → Nat} {xs : List C} {m : Int} (hg : Good xs) : (tonsO f xs m).length ≤ 16 := by
  unfold tonsO
  split
  · exact Nat.zero_le _
  · rename_i l ht
    split
    · rw [tonsL_len, pwL_len]
      have hs : sizB xs = true := by
        cases h : sizB xs
        · rw [transF_no h] at ht; cases ht
        · rfl
      obtain ⟨_, l', hl', hll, _⟩ := hg hs
      rw [ht] at hl'
      injection hl' with hl'
      subst hl'
      have := (siz_parts hs).2.2.2.1
      omega
    · exact Nat.zero_le _
theorem orN_if {o : Option Txt} : (if o.isSome = true then o.getD [] else tNone) = orN o := by cases o <;> rfl
theorem tonT_if (is : List Int) : (if (decide (0 < is.length)) = true then digT is else tNone) = tonT is := by
  unfold tonT
  cases is with
  | nil => rfl
  | cons a l => rw [if_pos (by simp), if_neg (by simp)]

set_option maxHeartbeats 4000000 in
set_option maxRecDepth 100000 in
theorem iAnswer (A A' : Option Addr) (n c m c' : Nat) (d : Dk) (l : Txt) (w : World) (hd : DkV w 0 A n c A' m d) (hz : DkS d) (hg : LvOk d.now) (hl : l.length ≤ 1048576) (hE : EnvX w) :
    Calls Tryz.prog 50 #[.agg #[.slice A n c, .slice A' m c'], .string (bs l)] w fun e w' => e = .returned (.string (bs (ansF d l))) ∧ Below w.heap.size w w' := by
  have hto := bs_toList l
  have hnl := hd.now.len
  have hml := hd.past.len
  have hn17 : n ≤ 17 := by have := hz.now; omega
  have hm9 : m ≤ 9 := by have := hz.len; omega
  have HG := Lib.hid hg.good
  have HPR := Lib.hid (hg.prod (-1))
  have HNL := Lib.hid hnl
  have HML := Lib.hid hml
  obtain ⟨w0, hw0⟩ : ∃ w0, w0 = w.alloc (.cells #[.slice A n c, .slice A' m c'] 26) := ⟨_, rfl⟩
  have HB0 : Hid (Below w.heap.size w w0) := by rw [hw0]; exact below_alloc _ _
  have HK0 : Hid (KAt w0 w.heap.size (.slice A n c) (.slice A' m c')) := by rw [hw0]; exact KAt.new w _ _ _
  have HV0 : Hid (DkV w0 0 A n c A' m d) := hd.below HB0.out
  have HE := Lib.hid hE
  have HIT : Hid (∀ (x : Int) w', -9223372036854775808 ≤ x → x ≤ 9223372036854775807 → EnvT w' → Calls Tryz.prog 68 #[.int .i64 x] w' fun e w'' => e = .returned (.string (bs (itoa x))) ∧ Below w'.heap.size w' w'') := fun x w' h1 h2 h => iItoa x h1 h2 w' h
  have HE0 : Hid (EnvX w0) := hE.kp (Kp.below HB0.out)
  clear hd hz hg hnl hml hE
  rcases line_cases l with h1 | ⟨h1, h2, h3, h4⟩ | ⟨h1, h2, h3, h4⟩ | ⟨h1, h2, h3, h4⟩ | ⟨h1, h2, h3, h4⟩
  · have HA := Lib.hid (ansF_points (d := d) h1)
    go_enter Tryz.func50, Tryz.ntmps50
    go_wp2_with fail
    rw [← hw0]
    clear hw0
    refine (HIT.out _ w0 (by omega) (by omega) HE0.out.a.tab).mono ?_
    rintro e w1 ⟨rfl, hb1⟩
    have HB1 : Hid (Below w.heap.size w w1) := HB0.out.trans (hb1.mono HB0.out.size)
    clear hb1
    go_wp2_with fail
    go_ret
    exact ⟨by rw [HA.out, HNL.out]; rfl, HB1.out⟩
  · have HA := Lib.hid (ansF_past (d := d) h1 h2)
    go_enter Tryz.func50, Tryz.ntmps50
    go_wp2_with fail
    rw [← hw0]
    clear hw0
    refine (HIT.out _ w0 (by omega) (by omega) HE0.out.a.tab).mono ?_
    rintro e w1 ⟨rfl, hb1⟩
    have HB1 : Hid (Below w.heap.size w w1) := HB0.out.trans (hb1.mono HB0.out.size)
    clear hb1
    go_wp2_with fail
    go_ret
    exact ⟨by rw [HA.out, HML.out]; rfl, HB1.out⟩
  · have HA := Lib.hid (ansF_signal (d := d) h1 h2 h3)
    go_enter Tryz.func50, Tryz.ntmps50
    go_wp2_with fail
    rw [← hw0]
    clear hw0
    refine (iSignalText A n c d.now w0 (by omega) HV0.out.now.cs HE0.out.a.tab).mono ?_
    rintro e w1 ⟨rfl, hb1⟩
    have HB1 : Hid (Below w.heap.size w w1) := HB0.out.trans (hb1.mono HB0.out.size)
    obtain ⟨o, ho⟩ : ∃ o, o = sigT d.now := ⟨_, rfl⟩
    rw [← ho] at HA ⊢
    clear hb1 ho
    have HOR : Hid (∀ w', Calls Tryz.prog 94 #[.string (bs (o.getD [])), .bool o.isSome] w' fun e w'' => e = .returned (.string (bs (orN o))) ∧ w'' = w') := fun w' => by rw [← orN_if]; exact orN_any _ _ _
    go_wp2_with fail
    refine (HOR.out w1).mono ?_
    rintro e w2 ⟨rfl, hw2⟩
    obtain rfl := hw2.symm
    go_wp2_with fail
    go_ret
    exact ⟨by rw [HA.out]; rfl, HB1.out⟩
  · have HA := Lib.hid (ansF_greatest (d := d) h1 h2 h3 h4)
    go_enter Tryz.func50, Tryz.ntmps50
    go_wp2_with fail
    rw [← hw0]
    clear hw0
    refine (iGreatest A n c d.now w0 (by omega) HV0.out.now.cs HG.out).mono ?_
    rintro e w1 ⟨v, rfl, hv, hv1, hv2, hb1⟩
    have HB1 : Hid (Below w.heap.size w w1) := HB0.out.trans (hb1.mono HB0.out.size)
    have HE1 := Lib.hid (HE0.out.kp (Kp.below hb1))
    obtain ⟨o, ho⟩ : ∃ o, o = greO pwI d.now := ⟨_, rfl⟩
    rw [← ho] at HA hv ⊢
    have HV := Lib.hid hv
    clear hb1 ho hv
    go_wp2_with fail
    refine (HIT.out v w1 (by omega) (by omega) HE1.out.a.tab).mono ?_
    rintro e w2 ⟨rfl, hb2⟩
    have HB2 : Hid (Below w.heap.size w w2) := HB1.out.trans (hb2.mono HB1.out.size)
    clear hb2
    have HOR : Hid (∀ w', Calls Tryz.prog 94 #[.string (bs (itoa v)), .bool o.isSome] w' fun e w'' => e = .returned (.string (bs (orN (o.map fun (k : Nat) => itoa (k : Int))))) ∧ w'' = w') := fun w' => by
      have hq : (if o.isSome = true then itoa v else tNone) = orN (o.map fun (k : Nat) => itoa (k : Int)) := by
        cases o with
        | none => rfl
        | some k => rw [HV.out k rfl]; rfl
      rw [← hq]; exact orN_any _ _ _
    obtain ⟨y, hy⟩ : ∃ y, y = orN (o.map fun (k : Nat) => itoa (k : Int)) := ⟨_, rfl⟩
    rw [← hy] at HOR HA
    clear hy
    go_wp2_with fail
    refine (HOR.out w2).mono ?_
    rintro e w3 ⟨rfl, hw3⟩
    obtain rfl := hw3.symm
    go_wp2_with fail
    go_ret
    exact ⟨by rw [HA.out]; rfl, HB2.out⟩
  · obtain ⟨a, ha⟩ : ∃ a, a = (cut1 32 l).1 := ⟨_, rfl⟩
    obtain ⟨r, hr⟩ : ∃ r, r = (cut1 32 l).2.1 := ⟨_, rfl⟩
    have hal : a.length ≤ 1048576 := by rw [ha]; have := (cut1_len 32 l).1; omega
    have hrl : r.length ≤ 1048576 := by rw [hr]; have := (cut1_len 32 l).2; omega
    have HCU : Hid (Calls Tryz.prog 66 #[.string (bs l), .string (bs [32])] w0 fun e w' => e = .returned (.tuple #[.string (bs a), .string (bs r), .bool (cut1 32 l).2.2]) ∧ Below w0.heap.size w0 w') := by
      rw [ha, hr]
      exact iCut l 32 (by omega) w0 HE0.out
    have HWH : Hid (∀ w', EnvA w' → Calls Tryz.prog 92 #[.string (bs r), .int .i64 0, .int .i64 9999] w' fun e w'' => e = .returned (.tuple #[ov (whole? r 0 9999), .bool (whole? r 0 9999).isSome]) ∧ Below w'.heap.size w' w'') := fun w' h => iWhole r 0 9999 (by omega) (by omega) (by omega) w' h
    have hta := bs_toList a
    have HAN : Hid (whole? r 0 9999 = none → ansF d l = tWhat) := fun h => ansF_none h1 h2 h3 h4 (by rw [← hr]; exact h)
    have HAS : Hid (∀ v, whole? r 0 9999 = some v → ansF d l = askF d a v) := fun v h => by rw [ha]; exact ansF_some h1 h2 h3 h4 (by rw [← hr]; exact h)
    obtain ⟨f, hf⟩ : ∃ f, f = (cut1 32 l).2.2 := ⟨_, rfl⟩
    rw [← hf] at HCU
    clear ha hr hf
    go_enter Tryz.func50, Tryz.ntmps50
    go_wp2_with fail
    rw [← hw0]
    clear hw0
    refine HCU.out.mono ?_
    rintro e w1 ⟨rfl, hb1⟩
    have HB1 : Hid (Below w.heap.size w w1) := HB0.out.trans (hb1.mono HB0.out.size)
    have HE1 := Lib.hid (HE0.out.kp (Kp.below hb1))
    have HK1 := Lib.hid (HK0.out.below hb1 HK0.out.lt)
    have HV1 := Lib.hid (HV0.out.below hb1)
    clear hb1
    go_wp2_with fail
    refine (HWH.out w1 HE1.out.a).mono ?_
    rintro e w2 ⟨rfl, hb2⟩
    have HB2 : Hid (Below w.heap.size w w2) := HB1.out.trans (hb2.mono HB1.out.size)
    have HE2 := Lib.hid (HE1.out.kp (Kp.below hb2))
    have HK2 := Lib.hid (HK1.out.below hb2 HK1.out.lt)
    have HV2 := Lib.hid (HV1.out.below hb2)
    clear hb2
    obtain ⟨k0, k1, _, _, kl⟩ := HK2.out
    cases hwh : whole? r 0 9999 with
    | none =>
      have HA := Lib.hid (HAN.out hwh)
      clear hwh
      unfold ov
      simp only [Option.isSome_none]
      go_wp2_with fail
      go_ret
      exact ⟨by rw [HA.out]; rfl, HB2.out⟩
    | some v =>
      have HA := Lib.hid (HAS.out v hwh)
      have hv0 : 0 ≤ v ∧ v ≤ 9999 := ((whole?_iff (by omega) (by omega)).1 hwh).2
      clear hwh
      unfold ov
      simp only [Option.isSome_some, Option.getD_some]
      rcases word_cases a with ⟨g1, g2⟩ | ⟨g1, g2⟩ | ⟨g1, g2⟩
      · have HQ := Lib.hid (askF_number (d := d) (v := v) g1)
        go_wp2_with fail
        refine (iOne A n c d.now v w2 (by omega) HV2.out.now.cs (fun _ => HPR.out)).mono ?_
        rintro e w3 ⟨rfl, hb3⟩
        have HB3 : Hid (Below w.heap.size w w3) := HB2.out.trans (hb3.mono HB2.out.size)
        have HE3 := Lib.hid (HE2.out.kp (Kp.below hb3))
        obtain ⟨o, ho⟩ : ∃ o, o = oneF d.now v := ⟨_, rfl⟩
        rw [← ho] at HQ ⊢
        obtain ⟨z, hz⟩ : ∃ z, z = o.getD (0, 0) := ⟨_, rfl⟩
        rw [← hz]
        have HTX : Hid (Calls Tryz.prog 97 #[.complex .f32 z.1 z.2] w3 fun e w' => e = .returned (.tuple #[.string (bs ((zText z).getD [])), .bool (zText z).isSome]) ∧ Below w3.heap.size w3 w') := iText z w3 HE3.out.a.tab
        have HQ2 : Hid ((if (o.isSome && (zText z).isSome) = true then (zText z).getD [] else tNone) = orN (o.bind zText)) := by
          show _ = _
          rw [hz]
          cases o with
          | none => rfl
          | some y => exact orN_if
        clear ho hb3 hz
        obtain ⟨u, hu⟩ : ∃ u, u = zText z := ⟨_, rfl⟩
        rw [← hu] at HTX HQ2
        clear hu
        unfold cv
        go_wp2_with fail
        refine HTX.out.mono ?_
        rintro e w4 ⟨rfl, hb4⟩
        have HB4 : Hid (Below w.heap.size w w4) := HB3.out.trans (hb4.mono HB3.out.size)
        clear hb4
        have HOR : Hid (∀ w', Calls Tryz.prog 94 #[.string (bs (u.getD [])), .bool (o.isSome && u.isSome)] w' fun e w'' => e = .returned (.string (bs (orN (o.bind zText)))) ∧ w'' = w') := fun w' => by rw [← HQ2.out]; exact orN_any _ _ _
        obtain ⟨y, hy⟩ : ∃ y, y = orN (o.bind zText) := ⟨_, rfl⟩
        rw [← hy] at HOR HQ
        clear hy HQ2
        cases hos : o.isSome
        all_goals
          rw [hos] at HOR
          simp only [Bool.false_and, Bool.true_and] at HOR
          clear hos
          go_wp2_with fail
          refine (HOR.out _).mono ?_
          rintro e w5 ⟨rfl, hw5⟩
          obtain rfl := hw5.symm
          go_wp2_with fail
          go_ret
          exact ⟨by rw [HA.out, HQ.out]; rfl, HB4.out⟩
      · have HQ := Lib.hid (askF_tones (d := d) (v := v) g1 g2)
        go_wp2_with fail
        refine (iTones A n c d.now v w2 (by omega) HV2.out.now.cs HG.out).mono ?_
        rintro e w3 ⟨A5, n5, c5, hn5, rfl, ho5, hb3⟩
        have HB3 : Hid (Below w.heap.size w w3) := HB2.out.trans (hb3.mono HB2.out.size)
        have HE3 := Lib.hid (HE2.out.kp (Kp.below hb3))
        have HO5 := Lib.hid ho5.sl
        have hn16 : n5 ≤ 16 := by rw [hn5]; exact tonsO_len HG.out
        have HN5 := Lib.hid hn5
        clear hb3 ho5 hn5
        go_wp2_with fail
        refine (iDigitsOf A5 n5 c5 (tonsO pwI d.now v) w3 hn16 HO5.out (tonsO_bd _ _ _) HE3.out.a.tab).mono ?_
        rintro e w4 ⟨rfl, hb4⟩
        have HB4 : Hid (Below w.heap.size w w4) := HB3.out.trans (hb4.mono HB3.out.size)
        clear hb4
        have HOR : Hid (∀ w', Calls Tryz.prog 94 #[.string (bs (digT (tonsO pwI d.now v))), .bool (decide (0 < n5))] w' fun e w'' => e = .returned (.string (bs (tonT (tonsO pwI d.now v)))) ∧ w'' = w') := fun w' => by
          rw [← tonT_if, HN5.out]; exact orN_any _ _ _
        by_cases h0 : 0 < n5
        · have h0i : (0 : Int) < (n5 : Int) := by omega
          rw [decide_eq_true h0] at HOR
          go_wp2_with fail
          refine (HOR.out _).mono ?_
          rintro e w5 ⟨rfl, hw5⟩
          obtain rfl := hw5.symm
          go_wp2_with fail
          go_ret
          exact ⟨by rw [HA.out, HQ.out]; rfl, HB4.out⟩
        · have h0i : ¬ (0 : Int) < (n5 : Int) := by omega
          rw [decide_eq_false h0] at HOR
          go_wp2_with fail
          refine (HOR.out _).mono ?_
          rintro e w5 ⟨rfl, hw5⟩
          obtain rfl := hw5.symm
          go_wp2_with fail
          go_ret
          exact ⟨by rw [HA.out, HQ.out]; rfl, HB4.out⟩
      · have HQ := Lib.hid (askF_not (d := d) (v := v) g1 g2)
        go_wp2_with fail
        go_ret
        exact ⟨by rw [HA.out, HQ.out]; rfl, HB2.out⟩
end Go.Proofs.YtnomlkkhkacajaaGreatDoor
namespace Go.Proofs.YtnomlkkhkacajaaGreatDoor
open Go.RowKit
open Go.Lib hiding intOf

def tOk : Txt := [111, 107]
def tNo : Txt := [110, 111]
/-- A desk after a line, and the answer. -/
noncomputable def lineF (d : Dk) (l : Txt) : Dk × Txt :=
  if dkB d = true then match readDd l with
    | some a => ((doF d a).1, if (doF d a).2 = true then tOk else tNo)
    | none => (d, ansF d l)
  else (dk0, [])
theorem lineF_bad {d : Dk} (l : Txt) (h : dkB d = false) : lineF d l = (dk0, []) := by unfold lineF; rw [h]; rfl
theorem lineF_do {d : Dk} {l : Txt} {a : Dd} (h : dkB d = true) (ha : readDd l = some a) : lineF d l = ((doF d a).1, if (doF d a).2 = true then tOk else tNo) := by unfold lineF; rw [h, ha]; rfl
theorem lineF_ask {d : Dk} {l : Txt} (h : dkB d = true) (ha : readDd l = none) : lineF d l = (d, ansF d l) := by unfold lineF; rw [h, ha]; rfl
/-- A desk, and a text. -/
def RetKT (w : World) (r : Dk × Txt) (e : Ending) (w' : World) : Prop :=
  ∃ A n c A' m c', e = .returned (.tuple #[.agg #[.slice A n c, .slice A' m c'], .string (bs r.2)]) ∧ DkV w' w.heap.size A n c A' m r.1 ∧ Below w.heap.size w w'
theorem dText_text {a : Dd} {l : Txt} (h : readDd l = some a) : a.text.length ≤ l.length := by
  obtain ⟨h1, h2⟩ := readDd_iff.1 h
  have h0 : dText a ≠ [] := by rw [h2]; exact h1
  rcases dText_cases h0 with ⟨_, _, _, e⟩ | ⟨_, e1, _, _, _⟩ | ⟨_, _, e1, _⟩
  · rw [← h2, e, List.length_append, List.length_cons]; omega
  · rw [e1]; exact Nat.zero_le _
  · rw [e1]; exact Nat.zero_le _

set_option maxHeartbeats 4000000 in
set_option maxRecDepth 100000 in
theorem iDeskLine (A A' : Option Addr) (n c m c' : Nat) (d : Dk) (l : Txt) (w : World) (hd : DkV w 0 A n c A' m d) (hz : DkS d) (hg : dkB d = true → LvOk d.now) (hl : l.length ≤ 1048576) (hE : EnvX w) :
    Calls Tryz.prog 20 #[.agg #[.slice A n c, .slice A' m c'], .string (bs l)] w (RetKT w (lineF d l)) := by
  obtain ⟨w0, hw0⟩ : ∃ w0, w0 = (w.alloc (.cells #[.slice A n c, .slice A' m c'] 26)).alloc (.cells #[.slice none 0 0, .slice none 0 0] 26) := ⟨_, rfl⟩
  have HB0 : Hid (Below w.heap.size w w0) := by rw [hw0]; exact below2 _ _ _
  have HK0 : Hid (KAt w0 w.heap.size (.slice A n c) (.slice A' m c')) := by rw [hw0]; exact (KAt.new w _ _ _).below (below_alloc _ _) (by rw [size_alloc]; omega)
  have HR0 : Hid (KAt w0 (w.heap.size + 1) (.slice none 0 0) (.slice none 0 0)) := by
    have h := KAt.new (w.alloc (.cells #[.slice A n c, .slice A' m c'] 26)) (.slice none 0 0) (.slice none 0 0) 26
    rw [size_alloc] at h
    rw [hw0]; exact h
  have HX0 : Hid (DkX w0 0 (fun b => b = w.heap.size + 1) A n c A' m d) := (hd.dkx (X := fun b => b = w.heap.size + 1) fun b _ h2 hx => by omega).kx (Kx.of HB0.out)
  have HOK : Hid (∀ w, DkV w 0 A n c A' m d → Calls Tryz.prog 12 #[.agg #[.slice A n c, .slice A' m c']] w fun e w' => e = .returned (.bool (dkB d)) ∧ Below w.heap.size w w') := fun w h => iDeskOk A A' n c m c' d w h hz
  obtain ⟨k0, k1, l0, l1, l2⟩ := HK0.out
  cases hb : dkB d
  · have HF := Lib.hid (lineF_bad l hb)
    rw [hb] at HOK
    clear hb hd hz hg hE
    go_enter Tryz.func20, Tryz.ntmps20
    go_wp2_with fail
    rw [← hw0]
    clear hw0
    refine (HOK.out _ HX0.out.dkv).mono ?_
    rintro e w1 ⟨rfl, hb1⟩
    have HB1 : Hid (Below w.heap.size w w1) := HB0.out.trans (hb1.mono HB0.out.size)
    obtain ⟨r0, r1, s0, s1, s2⟩ := HR0.out.below hb1 HR0.out.lt
    clear hb1 k0 k1 l0 l1 l2
    go_wp2_with fail
    refine bodyPost_ret (v := .tuple #[.agg #[.slice none 0 0, .slice none 0 0], .string (bs [])]) (by simp [results, Tryz.results20, go_sem, r0, r1]; rfl) rfl ?_
    rw [HF.out]
    exact ⟨_, _, _, _, _, _, rfl, DkV.zero _ _, (HB1.out.setCell (p := ⟨w.heap.size + 1, 0, none⟩) (by show w.heap.size ≤ w.heap.size + 1; omega) _).setCell (p := ⟨w.heap.size + 1, 1, none⟩) (by show w.heap.size ≤ w.heap.size + 1; omega) _⟩
  have hgd := hg hb
  have HDO : Hid (∀ (a : Dd) w', DkV w' 0 A n c A' m d → EnvA w' → a.text.length ≤ 1048576 → Calls Tryz.prog 9 #[.agg #[.slice A n c, .slice A' m c'], .agg #[.int .i64 a.kind, .int .i64 a.num, .string (bs a.text)]] w' (RetKB w' (doF d a))) := fun a w' h he ht => iDeskDo A A' n c m c' d a w' h hz (fun _ => hgd) (by omega) he
  have HCP : Hid (∀ w, DkV w 0 A n c A' m d → Calls Tryz.prog 35 #[.agg #[.slice A n c, .slice A' m c']] w (RetK w d)) := fun w h => iCopied A A' n c m c' d w h hz
  have HAN : Hid (∀ w, DkV w 0 A n c A' m d → EnvX w → Calls Tryz.prog 50 #[.agg #[.slice A n c, .slice A' m c'], .string (bs l)] w fun e w' => e = .returned (.string (bs (ansF d l))) ∧ Below w.heap.size w w') := fun w h he => iAnswer A A' n c m c' d l w h hz hgd hl he
  have HE := Lib.hid hE
  have HRD := Lib.hid (fun w' h => iReadDeed l (by omega) w' h)
  have hbb := Lib.hid hb
  rw [hb] at HOK
  clear hb hd hz hg hE hgd
  go_enter Tryz.func20, Tryz.ntmps20
  go_wp2_with fail
  rw [← hw0]
  clear hw0
  refine (HOK.out _ HX0.out.dkv).mono ?_
  rintro e w1 ⟨rfl, hb1⟩
  have HB1 : Hid (Below w.heap.size w w1) := HB0.out.trans (hb1.mono HB0.out.size)
  have HK1 := Lib.hid (HK0.out.below hb1 HK0.out.lt)
  have HR1 := Lib.hid (HR0.out.below hb1 HR0.out.lt)
  have HX1 := Lib.hid (HX0.out.kx (Kx.of hb1))
  clear hb1 k0 k1 l0 l1 l2
  go_wp2_with fail
  refine (HRD.out _ (HE.out.kp (Kp.below HB1.out))).mono ?_
  rintro e w2 ⟨rfl, hb2⟩
  have HB2 : Hid (Below w.heap.size w w2) := HB1.out.trans (hb2.mono HB1.out.size)
  have HK2 := Lib.hid (HK1.out.below hb2 HK1.out.lt)
  have HR2 := Lib.hid (HR1.out.below hb2 HR1.out.lt)
  have HX2 := Lib.hid (HX1.out.kx (Kx.of hb2))
  have hrl := HR2.out.lt
  clear hb2
  have hne1 : ¬ w.heap.size = w.heap.size + 1 := by omega
  have hne2 : ¬ w.heap.size + 1 = w.heap.size := by omega
  cases hrd : readDd l with
  | none =>
    have HF := Lib.hid (lineF_ask hbb.out hrd)
    clear hrd
    unfold od dv
    simp only [Option.getD_none, Option.isSome_none]
    obtain ⟨wb, hwb⟩ : ∃ wb, wb = w2.alloc (.cells #[.int .i64 0, .int .i64 0, .string (bs [])] 28) := ⟨_, rfl⟩
    have HBB : Hid (Below w2.heap.size w2 wb) := by rw [hwb]; exact below_alloc _ _
    have HKB := Lib.hid (HK2.out.below HBB.out HK2.out.lt)
    have HRB := Lib.hid (HR2.out.below HBB.out HR2.out.lt)
    have HXB := Lib.hid (HX2.out.kx (Kx.of HBB.out))
    have HWB : Hid (Below w.heap.size w wb) := HB2.out.trans (HBB.out.mono HB2.out.size)
    obtain ⟨k0, k1, l0, l1, l2⟩ := HKB.out
    obtain ⟨r0, r1, s0, s1, s2⟩ := HRB.out
    go_upto_region 5 with fail
    rw [← hwb]
    clear hwb
    go_region_held3 (fun w' => w'.cell? ⟨w.heap.size, 0, none⟩ = some (.slice A n c) ∧ w'.cell? ⟨w.heap.size, 1, none⟩ = some (.slice A' m c'))
      (first | exact ⟨k8, k9⟩ | exact ⟨k6, k7⟩ | exact ⟨k4, k5⟩ | exact ⟨k2, k3⟩ | exact ⟨k0, k1⟩ | go_keep)
      ((first
        | (go_at_call 35; (with_reducible refine Calls.mono (HCP.out _ (HXB.out.kx (Kx.of (Below.refl _ wb).drew)).dkv) ?_); rintro e w3 ⟨A2, n2, c2, A3, m2, c3, rfl, hs3, hp3, hb3, _⟩; have HB3 := Lib.hid (below_d hb3); have HK3 := Lib.hid (HKB.out.below HB3.out HKB.out.lt); have HR3 := Lib.hid (HRB.out.below HB3.out HRB.out.lt); have HX3 := Lib.hid (HXB.out.kx (Kx.of HB3.out)); have HN3 : Hid (DkV w3 wb.heap.size A2 n2 c2 A3 m2 d) := ⟨hs3, hp3.ps⟩; have HW3 : Hid (Below w.heap.size w w3) := HWB.out.trans (HB3.out.mono HWB.out.size); clear hs3 hp3 hb3; obtain ⟨k2, k3, _, _, _⟩ := HK3.out; obtain ⟨r2, r3, s3, s4, s5⟩ := HR3.out; have HPK : Hid (Pk (w.heap.size + 1) w3 ((w3.setCell ⟨w.heap.size + 1, 0, none⟩ (.slice A2 n2 c2)).setCell ⟨w.heap.size + 1, 1, none⟩ (.slice A3 m2 c3))) := ((Pk.refl _ _).setCell 0 _).setCell 1 _; have HKS := Lib.hid (HK3.out.pk HPK.out hne1); have HRS := Lib.hid ((HR3.out.set0 (.slice A2 n2 c2)).set1 (.slice A3 m2 c3)); have HXS := Lib.hid (HX3.out.kx (Kx.pk HPK.out rfl)); have HWS : Hid (Below w.heap.size w ((w3.setCell ⟨w.heap.size + 1, 0, none⟩ (.slice A2 n2 c2)).setCell ⟨w.heap.size + 1, 1, none⟩ (.slice A3 m2 c3))) := (HW3.out.setCell (p := ⟨w.heap.size + 1, 0, none⟩) (by show w.heap.size ≤ w.heap.size + 1; omega) _).setCell (p := ⟨w.heap.size + 1, 1, none⟩) (by show w.heap.size ≤ w.heap.size + 1; omega) _; have HNS : Hid (DkV ((w3.setCell ⟨w.heap.size + 1, 0, none⟩ (.slice A2 n2 c2)).setCell ⟨w.heap.size + 1, 1, none⟩ (.slice A3 m2 c3)) wb.heap.size A2 n2 c2 A3 m2 d) := HN3.out.pk HPK.out HRB.out.lt; obtain ⟨k4, k5, _, _, _⟩ := HKS.out)
        | (go_at_call 50; first
            | ((with_reducible refine Calls.mono (HAN.out w3 HX3.out.dkv (HE.out.kp (Kp.below HW3.out))) ?_); rintro e w4 ⟨rfl, hb4⟩; have HRF := Lib.hid (HR3.out.below hb4 HR3.out.lt); have HNF := Lib.hid (HN3.out.below hb4); have HWF : Hid (Below w.heap.size w w4) := HW3.out.trans (hb4.mono HW3.out.size); have HKF := Lib.hid (HK3.out.below hb4 HK3.out.lt); clear hb4; obtain ⟨k6, k7, _, _, _⟩ := HKF.out; have HPF : Hid (Pk (w.heap.size + 1) w4 ((w4.setCell ⟨w.heap.size + 1, 0, none⟩ (.slice A2 n2 c2)).setCell ⟨w.heap.size + 1, 1, none⟩ (.slice A3 m2 c3))) := ((Pk.refl _ _).setCell 0 _).setCell 1 _; obtain ⟨k8, k9, _, _, _⟩ := HKF.out.pk HPF.out hne1; obtain ⟨r6, r7, s6, s7, s8⟩ := HRF.out; have HFIN : Hid (RetKT w (d, ansF d l) (.returned (.tuple #[.agg #[.slice A2 n2 c2, .slice A3 m2 c3], .string (bs (ansF d l))])) ((w4.setCell ⟨w.heap.size + 1, 0, none⟩ (.slice A2 n2 c2)).setCell ⟨w.heap.size + 1, 1, none⟩ (.slice A3 m2 c3))) := ⟨_, _, _, _, _, _, rfl, (HNF.out.pk HPF.out HRB.out.lt).mono HWB.out.size, (HWF.out.setCell (p := ⟨w.heap.size + 1, 0, none⟩) (by show w.heap.size ≤ w.heap.size + 1; omega) _).setCell (p := ⟨w.heap.size + 1, 1, none⟩) (by show w.heap.size ≤ w.heap.size + 1; omega) _⟩)
            | ((with_reducible refine Calls.mono (HAN.out _ HXS.out.dkv (HE.out.kp (Kp.below HWS.out))) ?_); rintro e w4 ⟨rfl, hb4⟩; have HRF := Lib.hid (HRS.out.below hb4 HRS.out.lt); have HWF : Hid (Below w.heap.size w w4) := HWS.out.trans (hb4.mono HWS.out.size); have HKF := Lib.hid (HKS.out.below hb4 HKS.out.lt); have HFIN : Hid (RetKT w (d, ansF d l) (.returned (.tuple #[.agg #[.slice A2 n2 c2, .slice A3 m2 c3], .string (bs (ansF d l))])) w4) := ⟨_, _, _, _, _, _, rfl, (HNS.out.below hb4).mono HWB.out.size, HWF.out⟩; clear hb4; obtain ⟨k6, k7, _, _, _⟩ := HKF.out; obtain ⟨r6, r7, s6, s7, s8⟩ := HRF.out))))
    all_goals
      go_wp2_with fail
      refine bodyPost_ret (v := .tuple #[.agg #[.slice A2 n2 c2, .slice A3 m2 c3], .string (bs (ansF d l))]) (by simp [results, Tryz.results20, go_sem, r6, r7]) rfl ?_
      rw [HF.out]
      exact HFIN.out
  | some a =>
    have HF := Lib.hid (lineF_do hbb.out hrd)
    have htx : a.text.length ≤ 1048576 := by have := dText_text hrd; omega
    clear hrd
    unfold od dv
    simp only [Option.getD_some, Option.isSome_some]
    obtain ⟨wb, hwb⟩ : ∃ wb, wb = w2.alloc (.cells #[.int .i64 a.kind, .int .i64 a.num, .string (bs a.text)] 28) := ⟨_, rfl⟩
    have HBB : Hid (Below w2.heap.size w2 wb) := by rw [hwb]; exact below_alloc _ _
    have HRB := Lib.hid (HR2.out.below HBB.out HR2.out.lt)
    have HXB := Lib.hid (HX2.out.kx (Kx.of HBB.out))
    have HWB : Hid (Below w.heap.size w wb) := HB2.out.trans (HBB.out.mono HB2.out.size)
    obtain ⟨k0, k1, l0, l1, l2⟩ := HK2.out
    go_wp2_with fail
    rw [← hwb]
    clear hwb k0 k1 l0 l1 l2
    refine (HDO.out a wb HXB.out.dkv (HE.out.kp (Kp.below HWB.out)).a htx).mono ?_
    rintro e w3 ⟨A2, n2, c2, A3, m2, c3, rfl, hs3, hp3, _, hb3⟩
    have HN3 : Hid (DkV w3 wb.heap.size A2 n2 c2 A3 m2 (doF d a).1) := ⟨hs3, hp3⟩
    have HR3 := Lib.hid (HRB.out.below hb3 HRB.out.lt)
    have HW3 : Hid (Below w.heap.size w w3) := HWB.out.trans (hb3.mono HWB.out.size)
    obtain ⟨r0, r1, s0, s1, s2⟩ := HR3.out
    have hgt7 : ¬ w.heap.size + 1 = w3.heap.size := by omega
    have hgt8 : ¬ w3.heap.size = w.heap.size + 1 := by omega
    clear hs3 hp3 hb3
    have HPK : Hid (Pk (w.heap.size + 1) w3 ((w3.setCell ⟨w.heap.size + 1, 0, none⟩ (.slice A2 n2 c2)).setCell ⟨w.heap.size + 1, 1, none⟩ (.slice A3 m2 c3))) := ((Pk.refl _ _).setCell 0 _).setCell 1 _
    have HFV : Hid (∀ t o, RetKT w ((doF d a).1, t) (.returned (.tuple #[.agg #[.slice A2 n2 c2, .slice A3 m2 c3], .string (bs t)])) (((w3.setCell ⟨w.heap.size + 1, 0, none⟩ (.slice A2 n2 c2)).setCell ⟨w.heap.size + 1, 1, none⟩ (.slice A3 m2 c3)).alloc o)) := fun t o =>
      ⟨_, _, _, _, _, _, rfl, ((HN3.out.pk HPK.out HRB.out.lt).below (below_alloc _ _)).mono HWB.out.size, ((HW3.out.setCell (p := ⟨w.heap.size + 1, 0, none⟩) (by show w.heap.size ≤ w.heap.size + 1; omega) _).setCell (p := ⟨w.heap.size + 1, 1, none⟩) (by show w.heap.size ≤ w.heap.size + 1; omega) _).trans ((below_alloc _ _).mono (by rw [size_set, size_set]; exact HW3.out.size))⟩
    cases hok : (doF d a).2
    · have HT : Hid (lineF d l = ((doF d a).1, tNo)) := by show _ = _; rw [HF.out, hok]; rfl
      clear hok
      go_wp2_with fail
      obtain ⟨z0, z1, _, _, _⟩ := ((HR3.out.set0 (.slice A2 n2 c2)).set1 (.slice A3 m2 c3)).below (below_alloc _ (.cells #[.slice A2 n2 c2, .slice A3 m2 c3] 26)) ((HR3.out.set0 (.slice A2 n2 c2)).set1 (.slice A3 m2 c3)).lt
      refine bodyPost_ret (v := .tuple #[.agg #[.slice A2 n2 c2, .slice A3 m2 c3], .string (bs tNo)]) (by simp [results, Tryz.results20, go_sem, z0, z1]; rfl) rfl ?_
      rw [HT.out]
      exact HFV.out _ _
    · have HT : Hid (lineF d l = ((doF d a).1, tOk)) := by show _ = _; rw [HF.out, hok]; rfl
      clear hok
      go_wp2_with fail
      obtain ⟨z0, z1, _, _, _⟩ := ((HR3.out.set0 (.slice A2 n2 c2)).set1 (.slice A3 m2 c3)).below (below_alloc _ (.cells #[.slice A2 n2 c2, .slice A3 m2 c3] 26)) ((HR3.out.set0 (.slice A2 n2 c2)).set1 (.slice A3 m2 c3)).lt
      refine bodyPost_ret (v := .tuple #[.agg #[.slice A2 n2 c2, .slice A3 m2 c3], .string (bs tOk)]) (by simp [results, Tryz.results20, go_sem, z0, z1]; rfl) rfl ?_
      rw [HT.out]
      exact HFV.out _ _
end Go.Proofs.YtnomlkkhkacajaaGreatDoor
namespace Go.Proofs.YtnomlkkhkacajaaGreatDoor
open Go.RowKit
open Go.Lib hiding intOf

theorem itoa_no32 (n : Int) : (32 : UInt8) ∉ itoa n := fun h => by
  have := itoa_byte n 32 h
  have e : (32 : UInt8).toNat = 32 := rfl
  omega
theorem whole_nil : whole? [] 0 9999 = none := by
  cases h : whole? [] 0 9999 with
  | none => rfl
  | some v => exact absurd ((whole?_iff (by omega) (by omega)).1 h).1.symm (itoa_ne v)
/-- A line of another number of words than two asks for nothing. -/
theorem words_not {l : Txt} (h : (cutAll 32 l).length ≠ 2) : whole? (cut1 32 l).2.1 0 9999 = none := by
  rcases cut_cases 32 l with h1 | ⟨a, b, rfl, h1⟩
  · rw [cut1_no h1]; exact whole_nil
  · rw [cut1_at _ h1]
    show whole? b 0 9999 = none
    cases hw : whole? b 0 9999 with
    | none => rfl
    | some v =>
      obtain ⟨e, _⟩ := (whole?_iff (by omega) (by omega)).1 hw
      exact absurd (by rw [cutAll_at _ h1, cutAll_no (by rw [e]; exact itoa_no32 v)]; rfl) h
theorem words_two {l a b : Txt} (h : cutAll 32 l = [a, b]) : (cut1 32 l).1 = a ∧ (cut1 32 l).2.1 = b := by
  rcases cut_cases 32 l with h1 | ⟨x, y, rfl, h1⟩
  · rw [cutAll_no h1] at h; cases h
  · rw [cutAll_at _ h1] at h
    rw [cut1_at _ h1]
    injection h with h2 h3
    subst h2
    rcases cut_cases 32 y with h4 | ⟨x2, y2, rfl, h4⟩
    · rw [cutAll_no h4] at h3
      injection h3 with h5 _
      exact ⟨rfl, h5⟩
    · rw [cutAll_at _ h4] at h3
      injection h3 with _ h6
      exact absurd h6 (cutAll_ne _ _)
theorem words_cases (l : Txt) : (cutAll 32 l).length ≠ 2 ∨ ∃ a b, cutAll 32 l = [a, b] := by
  match h : cutAll 32 l with
  | [] => exact .inl (by simp)
  | [a] => exact .inl (by simp)
  | [a, b] => exact .inr ⟨a, b, rfl⟩
  | a :: b :: c :: r => exact .inl (by simp)
/-- The same number, read by the reference. -/
theorem whole_digs (b : Txt) : whole? b 0 9999 = (digs b).bind fun v => if inB v 0 9999 = true then some v else none := by
  cases hd : digs b with
  | none =>
    cases hw : whole? b 0 9999 with
    | none => rfl
    | some v =>
      obtain ⟨e, h1, h2⟩ := (whole?_iff (by omega) (by omega)).1 hw
      have := (digs_iff (n := v)).2 ⟨e, by omega, by omega⟩
      rw [hd] at this; cases this
  | some v =>
    obtain ⟨e, _, _⟩ := digs_iff.1 hd
    show _ = if inB v 0 9999 = true then some v else none
    by_cases hin : 0 ≤ v ∧ v ≤ 9999
    · rw [inB_true hin.1 hin.2, if_pos rfl]
      exact (whole?_iff (by omega) (by omega)).2 ⟨e, hin.1, hin.2⟩
    · have hf : ¬ inB v 0 9999 = true := fun h => hin (by unfold inB at h; simpa using h)
      rw [if_neg hf]
      cases hw : whole? b 0 9999 with
      | none => rfl
      | some u =>
        obtain ⟨e2, h1, h2⟩ := (whole?_iff (by omega) (by omega)).1 hw
        have h3 := (digs_iff (n := u)).2 ⟨e2, by omega, by omega⟩
        rw [hd] at h3
        injection h3 with h3
        exact absurd ⟨by omega, by omega⟩ hin
/-- The blocks of the reference before its answer. -/
structure LnI (w : World) (gb : Nat) (wr : World) (A : Option Addr) (n c : Nat) (A' : Option Addr) (m c' : Nat) (A2 : Option Addr) (n2 c2 : Nat) (A3 : Option Addr) (m3 c3 : Nat) (d : Dk) : Prop where
  old : KAt wr w.heap.size (.slice A n c) (.slice A' m c')
  src : DkV wr 0 A n c A' m d
  run : RunI w gb wr A2 n2 c2 A3 m3 c3 d
/-- The blocks of the reference when its result is laid. -/
structure LnF (w : World) (gb : Nat) (wr : World) (A : Option Addr) (n c : Nat) (A' : Option Addr) (m c' : Nat) (A2 : Option Addr) (n2 c2 : Nat) (A3 : Option Addr) (m3 c3 : Nat) (d : Dk) : Prop where
  old : KAt wr w.heap.size (.slice A n c) (.slice A' m c')
  at_ : KAt wr gb (.slice A2 n2 c2) (.slice A3 m3 c3)
  res : KAt wr (w.heap.size + 1) (.slice A2 n2 c2) (.slice A3 m3 c3)
  dk : DkV wr w.heap.size A2 n2 c2 A3 m3 d
  below : Below w.heap.size w wr
variable {w wr w' : World} {gb : Nat} {A A' A2 A3 : Option Addr} {n c m c' n2 c2 m3 c3 : Nat} {d : Dk}
theorem LnI.step (h : LnI w gb wr A n c A' m c' A2 n2 c2 A3 m3 c3 d) (hb : Below wr.heap.size wr w') : LnI w gb w' A n c A' m c' A2 n2 c2 A3 m3 c3 d :=
  ⟨h.old.below hb h.old.lt, h.src.below hb, h.run.step hb⟩
theorem LnI.fin (h : LnI w gb wr A n c A' m c' A2 n2 c2 A3 m3 c3 d) : LnF w gb ((wr.setCell ⟨w.heap.size + 1, 0, none⟩ (.slice A2 n2 c2)).setCell ⟨w.heap.size + 1, 1, none⟩ (.slice A3 m3 c3)) A n c A' m c' A2 n2 c2 A3 m3 c3 d := by
  obtain ⟨A4, n4, c4, A5, m5, c5, he, h1, h2⟩ := h.run.ret (q := 0)
  injection he with he
  injection he with he
  have he := congrArg (·.toList) he
  simp only [List.cons.injEq, Value.agg.injEq] at he
  have h3 := congrArg (·.toList) he.1
  simp only [List.cons.injEq, Value.slice.injEq, and_true] at h3
  obtain ⟨⟨rfl, rfl, rfl⟩, rfl, rfl, rfl⟩ := h3
  have hgt := h.run.gt
  have hpk : Pk (w.heap.size + 1) wr ((wr.setCell ⟨w.heap.size + 1, 0, none⟩ (.slice A2 n2 c2)).setCell ⟨w.heap.size + 1, 1, none⟩ (.slice A3 m3 c3)) := ((Pk.refl _ _).setCell 0 _).setCell 1 _
  exact ⟨h.old.pk hpk (by omega), h.run.at_.pk hpk (by omega), (h.run.res.set0 _).set1 _, h1, h2⟩
theorem LnF.step (h : LnF w gb wr A n c A' m c' A2 n2 c2 A3 m3 c3 d) (hb : Below wr.heap.size wr w') : LnF w gb w' A n c A' m c' A2 n2 c2 A3 m3 c3 d :=
  ⟨h.old.below hb h.old.lt, h.at_.below hb h.at_.lt, h.res.below hb h.res.lt, h.dk.below hb, h.below.trans (hb.mono h.below.size)⟩
theorem LnF.ret (h : LnF w gb wr A n c A' m c' A2 n2 c2 A3 m3 c3 d) (t : Txt) : RetKT w (d, t) (.returned (.tuple #[.agg #[.slice A2 n2 c2, .slice A3 m3 c3], .string (bs t)])) wr := ⟨_, _, _, _, _, _, rfl, h.dk, h.below⟩
end Go.Proofs.YtnomlkkhkacajaaGreatDoor
