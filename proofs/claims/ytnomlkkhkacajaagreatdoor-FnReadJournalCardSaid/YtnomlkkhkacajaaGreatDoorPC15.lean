/- Texts on the way to a law (U2, J1, U3, U4, U5), each with its own remark. -/
import Derived.Test.YtnomlkkhkacajaaGreatDoorPC14
import Derived.Test.YtnomlkkhkacajaaGreatDoorSh
import Derived.Lib.AtoiErrMem
import Derived.Lib.Agree
namespace Go.Proofs.YtnomlkkhkacajaaGreatDoor
open Go.RowKit
open Go.Lib hiding intOf

theorem bs_get (l : Txt) (k : Nat) (_ : k < l.length) (h2 : k < (bs l).size) : ((bs l)[k]'h2).toNat = (l[k]).toNat := by
  rfl
theorem decFrom_none {l : Txt} {k n : Nat} (hk : k < l.length) (h : decFrom 0 (l.take k) = some n) (hc : ¬ (48 ≤ (l[k]).toNat ∧ (l[k]).toNat ≤ 57)) : decFrom 0 l = none := by
  have e : l = l.take k ++ l[k] :: l.drop (k + 1) := by
    rw [List.getElem_cons_drop, List.take_append_drop]
  rw [e, decFrom_append, h]
  show decFrom n (l[k] :: l.drop (k + 1)) = none
  simp only [decFrom, digitVal, if_neg hc]
theorem decFrom_step {l : Txt} {k n : Nat} (hk : k < l.length) (h : decFrom 0 (l.take k) = some n) (h1 : 48 ≤ (l[k]).toNat) (h2 : (l[k]).toNat ≤ 57) : decFrom 0 (l.take (k + 1)) = some (10 * n + ((l[k]).toNat - 48)) := by
  rw [List.take_succ_eq_append_getElem hk, decFrom_append, h]
  show decFrom n [l[k]] = _
  rw [decFrom_one n _ h1 h2, Nat.mul_comm]
def RetG (o : Option Int) (w : World) (e : Ending) (w' : World) : Prop := ∃ m : Int, e = .returned (.tuple #[.int .i64 m, .bool o.isSome]) ∧ (∀ n, o = some n → m = n) ∧ -9999999 ≤ m ∧ m ≤ 9999999 ∧ w' = w
theorem RetG.no {o : Option Int} (h : o = none) (w : World) : RetG o w (.returned (.tuple #[.int .i64 0, .bool false])) w := by subst h; exact ⟨0, rfl, (fun n hn => by cases hn), by omega, by omega, rfl⟩
theorem RetG.yes {o : Option Int} {m : Int} (h : o = some m) (h1 : -9999999 ≤ m) (h2 : m ≤ 9999999) (w : World) : RetG o w (.returned (.tuple #[.int .i64 m, .bool true])) w := by subst h; exact ⟨m, rfl, (fun n hn => by cases hn; rfl), h1, h2, rfl⟩

set_option maxRecDepth 100000 in
set_option maxHeartbeats 1000000 in
theorem sDigits0 (l : Txt) (w : World) (hl : l.length ≤ 4611686018427387904) (hm : ¬ (1 < l.length ∧ l.head? = some 45)) :
    Calls Tryz.prog 57 #[.string (bs l)] w (RetG ((digs0 l).map Int.ofNat) w) := by
  obtain ⟨n, hn⟩ : ∃ n, n = l.length := ⟨_, rfl⟩
  have hsz : (bs l).size = n := by rw [bs_size, hn]
  have HN := Lib.hid hn
  have hin := fun n lo hi w => l1In_any n lo hi w
  have HIN := Lib.hid hin
  clear hin
  -- the first byte
  by_cases h0 : n = 0
  · have hz : (digs0 l).map Int.ofNat = none := by unfold digs0; rw [if_pos (.inl (by omega))]; rfl
    have HZ := Lib.hid hz
    subst h0
    clear hn hz hm hl
    go_enter Tryz.func57, Tryz.ntmps57
    go_wp2_with fail
    refine (HIN.out _ _ _ _).mono ?_
    rintro e w' ⟨rfl, rfl⟩
    rw [show inB 0 1 7 = false from rfl]
    go_wp2_with fail
    go_ret2
    exact RetG.no HZ.out _
  · obtain ⟨c, hc⟩ : ∃ c, c = (l[0]'(by omega)).toNat := ⟨_, rfl⟩
    have hb0 : ∀ h, ((bs l)[0]'h).toNat = c := fun h => by rw [bs_get l 0 (by omega)]; exact hc.symm
    have hhd : ∀ x : UInt8, l.head? = some x ↔ x.toNat = c := by
      intro x
      cases l with
      | nil => simp at hn; omega
      | cons a r =>
        simp only [List.head?_cons, Option.some.injEq]
        rw [hc]
        exact ⟨fun h => by rw [← h]; rfl, fun h => (UInt8.toNat_inj.1 h).symm⟩
    have hc45 : ¬ (1 < n ∧ c = 45) := fun h => hm ⟨by omega, (hhd 45).2 h.2.symm⟩
    have HG : Hid (¬ (n < 1 ∨ 7 < n ∨ (1 < n ∧ c = 48)) → digs0 l = decFrom 0 l) := by
      intro h
      unfold digs0
      rw [if_neg]
      rintro (h2 | h2 | h2)
      · omega
      · omega
      · exact h (.inr (.inr ⟨by omega, ((hhd 48).1 h2.2).symm⟩))
    have HB : Hid ((n < 1 ∨ 7 < n ∨ (1 < n ∧ c = 48)) → (digs0 l).map Int.ofNat = none) := by
      intro h
      unfold digs0
      rw [if_pos]
      · rfl
      rcases h with h | h | h
      · exact .inl (by omega)
      · exact .inr (.inl (by omega))
      · exact .inr (.inr ⟨by omega, (hhd 48).2 h.2.symm⟩)
    have hall : ∀ (k : Nat) (_ : k < n), ∃ d : Nat, d < 256 ∧ (∀ h, ((bs l)[k]'h).toNat = d) ∧ ∀ h : k < l.length, (l[k]).toNat = d := fun k hk =>
      ⟨(l[k]'(by omega)).toNat, UInt8.toNat_lt _, fun h => bs_get l k (by omega) h, fun _ => rfl⟩
    have HA := Lib.hid hall
    have hn4 : n ≤ 4611686018427387904 := by omega
    clear hall hhd hm hc hl
    have FIN : Hid (∀ e w', e = Ending.returned (.tuple #[.int .i64 0, .bool false]) → w' = w → (digs0 l).map Int.ofNat = none → RetG ((digs0 l).map Int.ofNat) w e w') := fun e w' h1 h2 h3 => by rw [h1, h2]; exact RetG.no h3 w
    clear hn
    by_cases h1 : n = 1
    · have GD := Lib.hid (HG.out (by omega))
      subst h1
      clear hc45
      go_enter Tryz.func57, Tryz.ntmps57
      go_wp2_with fail
      refine (HIN.out _ _ _ _).mono ?_
      rintro e w' ⟨rfl, rfl⟩
      rw [show inB 1 1 7 = true from rfl]
      go_wp2_with fail
      go_loopw [6, 7] (fun v i wr => ∃ (k m : Nat), k ≤ 1 ∧ i = .int .i64 k ∧ v = .int .i64 m ∧ decFrom 0 (l.take k) = some m ∧ m < 10 ^ k ∧ wr = w') (fun _ i _ => 1 - (intOf i).toNat)
      case atStart => exact ⟨0, 0, by omega, rfl, rfl, rfl, by decide, rfl⟩
      case round =>
        obtain ⟨k, m, hk, rfl, rfl, hd, hm, rfl⟩ := hrel
        have hm7 : m < 10000000 := by
          have h3 : (10 : Nat) ^ k ≤ 10 ^ 7 := Nat.pow_le_pow_right (by omega) (by omega)
          have h4 : (10 : Nat) ^ 7 = 10000000 := by decide
          omega
        have HD := Lib.hid hd
        have HM := Lib.hid hm
        clear hd hm
        by_cases hlt : k < 1
        · obtain ⟨d, hd, hb, hb2⟩ := HA.out k hlt
          have HB2 := Lib.hid (hb2 (by rw [← HN.out]; exact hlt))
          clear hb2
          by_cases hlo : d < 48
          · have hlo2 : (d : Int) < 48 := by omega
            go_wp2_with fail
            go_ret2
            exact FIN.out _ _ rfl rfl (by rw [GD.out, decFrom_none (by rw [← HN.out]; exact hlt) HD.out (by rw [HB2.out]; omega)]; rfl)
          · by_cases hhi : 57 < d
            · have hlo2 : ¬ (d : Int) < 48 := by omega
              have hhi2 : 57 < (d : Int) := by omega
              go_wp2_with fail
              go_ret2
              exact FIN.out _ _ rfl rfl (by rw [GD.out, decFrom_none (by rw [← HN.out]; exact hlt) HD.out (by rw [HB2.out]; omega)]; rfl)
            · have hlo2 : ¬ (d : Int) < 48 := by omega
              have hhi2 : ¬ 57 < (d : Int) := by omega
              have e1 : IntKind.u8.wrap ((d : Int) - 48) = (d : Int) - 48 := IntWalk.u8_in _ (by omega)
              go_wp2_with fail
              go_roundw
              case rel => exact ⟨k + 1, 10 * m + (d - 48), by omega, by go_num, by go_num, by rw [decFrom_step (by rw [← HN.out]; exact hlt) HD.out (by rw [HB2.out]; omega) (by rw [HB2.out]; omega), HB2.out], by have := HM.out; rw [Nat.pow_succ]; omega, by trivial⟩
              case measure => simp [intOf]; omega
        · obtain rfl : k = 1 := by omega
          go_wp2_with fail
          go_ret2
          have hall : digs0 l = some m := by rw [GD.out, ← HD.out, HN.out, List.take_length]
          exact RetG.yes (by rw [hall]; rfl) (by omega) (by omega) _
    · have hn1 : 1 < n := by omega
      have hc : ((c : Int) == 45) = false := by rw [beq_eq_false_iff_ne]; omega
      clear hc45
      by_cases h7 : 7 < n
      · have e7 : inB (n : Int) 1 7 = false := inB_hi (by omega)
        have HZ := Lib.hid (HB.out (by omega))
        go_enter Tryz.func57, Tryz.ntmps57
        go_wp2_with fail
        refine (HIN.out _ _ _ _).mono ?_
        rintro e w' ⟨rfl, rfl⟩
        rw [e7]
        go_wp2_with fail
        go_ret2
        exact FIN.out _ _ rfl rfl HZ.out
      have e7 : inB (n : Int) 1 7 = true := inB_true (by omega) (by omega)
      by_cases h48 : c = 48
      · have hc2 : ((c : Int) == 48) = true := by rw [beq_iff_eq]; omega
        have HZ := Lib.hid (HB.out (by omega))
        clear h48
        go_enter Tryz.func57, Tryz.ntmps57
        go_wp2_with fail
        refine (HIN.out _ _ _ _).mono ?_
        rintro e w' ⟨rfl, rfl⟩
        rw [e7]
        go_wp2_with fail
        go_ret2
        exact FIN.out _ _ rfl rfl HZ.out
      have hc2 : ((c : Int) == 48) = false := by rw [beq_eq_false_iff_ne]; omega
      have GD := Lib.hid (HG.out (by omega))
      go_enter Tryz.func57, Tryz.ntmps57
      go_wp2_with fail
      refine (HIN.out _ _ _ _).mono ?_
      rintro e w' ⟨rfl, rfl⟩
      rw [e7]
      go_wp2_with fail
      go_loopw [6, 7] (fun v i wr => ∃ (k m : Nat), k ≤ n ∧ i = .int .i64 k ∧ v = .int .i64 m ∧ decFrom 0 (l.take k) = some m ∧ m < 10 ^ k ∧ wr = w') (fun _ i _ => n - (intOf i).toNat)
      case atStart => exact ⟨0, 0, by omega, rfl, rfl, rfl, by decide, rfl⟩
      case round =>
        obtain ⟨k, m, hk, rfl, rfl, hd, hm, rfl⟩ := hrel
        have hm7 : m < 10000000 := by
          have h3 : (10 : Nat) ^ k ≤ 10 ^ 7 := Nat.pow_le_pow_right (by omega) (by omega)
          have h4 : (10 : Nat) ^ 7 = 10000000 := by decide
          omega
        have HD := Lib.hid hd
        have HM := Lib.hid hm
        clear hd hm
        by_cases hlt : k < n
        · obtain ⟨d, hd, hb, hb2⟩ := HA.out k hlt
          have HB2 := Lib.hid (hb2 (by rw [← HN.out]; exact hlt))
          clear hb2
          by_cases hlo : d < 48
          · have hlo2 : (d : Int) < 48 := by omega
            go_wp2_with fail
            go_ret2
            exact FIN.out _ _ rfl rfl (by rw [GD.out, decFrom_none (by rw [← HN.out]; exact hlt) HD.out (by rw [HB2.out]; omega)]; rfl)
          · by_cases hhi : 57 < d
            · have hlo2 : ¬ (d : Int) < 48 := by omega
              have hhi2 : 57 < (d : Int) := by omega
              go_wp2_with fail
              go_ret2
              exact FIN.out _ _ rfl rfl (by rw [GD.out, decFrom_none (by rw [← HN.out]; exact hlt) HD.out (by rw [HB2.out]; omega)]; rfl)
            · have hlo2 : ¬ (d : Int) < 48 := by omega
              have hhi2 : ¬ 57 < (d : Int) := by omega
              have e1 : IntKind.u8.wrap ((d : Int) - 48) = (d : Int) - 48 := IntWalk.u8_in _ (by omega)
              go_wp2_with fail
              go_roundw
              case rel => exact ⟨k + 1, 10 * m + (d - 48), by omega, by go_num, by go_num, by rw [decFrom_step (by rw [← HN.out]; exact hlt) HD.out (by rw [HB2.out]; omega) (by rw [HB2.out]; omega), HB2.out], by have := HM.out; rw [Nat.pow_succ]; omega, by trivial⟩
              case measure => simp [intOf]; omega
        · obtain rfl : k = n := by omega
          go_wp2_with fail
          go_ret2
          have hall : digs0 l = some m := by rw [GD.out, ← HD.out, HN.out, List.take_length]
          exact RetG.yes (by rw [hall]; rfl) (by omega) (by omega) _
end Go.Proofs.YtnomlkkhkacajaaGreatDoor
namespace Go.Proofs.YtnomlkkhkacajaaGreatDoor
open Go.RowKit
open Go.Lib hiding intOf

/-- A deed as a value. -/
def dv (a : Dd) : Value := .agg #[.int .i64 a.kind, .int .i64 a.num, .string (bs a.text)]
/-- Whether a deed has a kind, and the zero value where nothing is named for it. -/
def okD (a : Dd) : Bool :=
  if a.kind = 0 then decide (a.num = 0) else if a.kind = 1 ∨ a.kind = 2 ∨ a.kind = 6 then decide (a.num = 0) && a.text.isEmpty
  else if 3 ≤ a.kind ∧ a.kind ≤ 5 then a.text.isEmpty else false
theorem kind_cases (k : Int) : k = 0 ∨ k = 1 ∨ k = 2 ∨ k = 3 ∨ k = 4 ∨ k = 5 ∨ k = 6 ∨ (((k == 0) = false ∧ (k == 1) = false ∧ (k == 2) = false ∧ (k == 3) = false ∧ (k == 4) = false ∧ (k == 5) = false ∧ (k == 6) = false) ∧ wordOf k = [] ∧ ¬ (0 ≤ k ∧ k ≤ 6)) := by
  by_cases h : 0 ≤ k ∧ k ≤ 6
  · omega
  · right; right; right; right; right; right; right
    refine ⟨⟨?_, ?_, ?_, ?_, ?_, ?_, ?_⟩, ?_, h⟩
    · rw [beq_eq_false_iff_ne]; omega
    · rw [beq_eq_false_iff_ne]; omega
    · rw [beq_eq_false_iff_ne]; omega
    · rw [beq_eq_false_iff_ne]; omega
    · rw [beq_eq_false_iff_ne]; omega
    · rw [beq_eq_false_iff_ne]; omega
    · rw [beq_eq_false_iff_ne]; omega
    · unfold wordOf
      rw [if_neg (by omega), if_neg (by omega), if_neg (by omega), if_neg (by omega), if_neg (by omega), if_neg (by omega), if_neg (by omega)]
theorem iWord (k : Int) (w : World) : Calls Tryz.prog 38 #[.int .i64 k] w fun e w' => e = .returned (.string (bs (wordOf k))) ∧ w' = w := by
  rcases kind_cases k with rfl | rfl | rfl | rfl | rfl | rfl | rfl | ⟨⟨h0, h1, h2, h3, h4, h5, h6⟩, hw, _⟩
  all_goals try (
    go_enter Tryz.func38, Tryz.ntmps38
    go_wp2_with fail
    go_ret
    exact ⟨rfl, rfl⟩)
  rw [hw]
  clear hw
  go_enter Tryz.func38, Tryz.ntmps38
  go_wp2_with fail
  go_ret
  exact ⟨rfl, rfl⟩
theorem bs_toL (t : Txt) : (bs t).toList = t := by rw [toList_data, bs_data]
theorem bs_nilB (t : Txt) : (bs t).toList.isEmpty = t.isEmpty := by rw [bs_toL]
set_option maxHeartbeats 1000000 in
theorem iDeedOk (a : Dd) (w : World) : Calls Tryz.prog 36 #[dv a] w fun e w' => e = .returned (.bool (okD a)) ∧ Below w.heap.size w w' := by
  obtain ⟨k, n, t⟩ := a
  unfold dv okD
  have hto := bs_nilB
  rcases kind_cases k with rfl | rfl | rfl | rfl | rfl | rfl | rfl | ⟨⟨h0, h1, h2, h3, h4, h5, h6⟩, _, h7⟩
  · go_enter Tryz.func36, Tryz.ntmps36
    go_wp2_with fail
    go_ret
    exact ⟨rfl, below_alloc _ _⟩
  all_goals try (
    by_cases hn : n = 0
    · subst hn
      go_enter Tryz.func36, Tryz.ntmps36
      go_wp2_with fail
      go_ret
      exact ⟨rfl, below_alloc _ _⟩
    · have hb : (n == 0) = false := (by rw [beq_eq_false_iff_ne]; exact hn)
      have hd : decide (n = 0) = false := (by simpa using hn)
      go_enter Tryz.func36, Tryz.ntmps36
      go_wp2_with fail
      go_ret
      exact ⟨ret_bool (by first | rfl | simp [hd]), below_alloc _ _⟩)
  simp only [show ¬ k = 0 by omega, show ¬ (k = 1 ∨ k = 2 ∨ k = 6) by omega, show ¬ (3 ≤ k ∧ k ≤ 5) by omega, if_false]
  clear h7
  go_enter Tryz.func36, Tryz.ntmps36
  go_wp2_with fail
  go_ret
  exact ⟨rfl, below_alloc _ _⟩
theorem kindOf_words : kindOf (wordOf 0) = 0 ∧ kindOf (wordOf 1) = 1 ∧ kindOf (wordOf 2) = 2 ∧ kindOf (wordOf 3) = 3 ∧ kindOf (wordOf 4) = 4 ∧ kindOf (wordOf 5) = 5 ∧ kindOf (wordOf 6) = 6 := by decide
/-- The first kinds' words are others. -/
def KNo (l : Txt) (k : Nat) : Prop := ∀ j : Nat, j < k → wordOf j ≠ l
theorem kindOf_at {l : Txt} {k : Nat} (h : KNo l k) (hk : k ≤ 6) (h2 : wordOf k = l) : kindOf l = k := by
  have := kindOf_words
  subst h2
  have h6 : k = 0 ∨ k = 1 ∨ k = 2 ∨ k = 3 ∨ k = 4 ∨ k = 5 ∨ k = 6 := by omega
  rcases h6 with rfl | rfl | rfl | rfl | rfl | rfl | rfl
  · exact this.1
  · exact this.2.1
  · exact this.2.2.1
  · exact this.2.2.2.1
  · exact this.2.2.2.2.1
  · exact this.2.2.2.2.2.1
  · exact this.2.2.2.2.2.2
theorem kindOf_none {l : Txt} (h : KNo l 7) : kindOf l = -1 := by
  unfold kindOf
  rw [if_neg (show wordOf 0 ≠ l from h 0 (by omega)), if_neg (show wordOf 1 ≠ l from h 1 (by omega)), if_neg (show wordOf 2 ≠ l from h 2 (by omega)), if_neg (show wordOf 3 ≠ l from h 3 (by omega)), if_neg (show wordOf 4 ≠ l from h 4 (by omega)), if_neg (show wordOf 5 ≠ l from h 5 (by omega)), if_neg (show wordOf 6 ≠ l from h 6 (by omega))]
theorem iKind (l : Txt) (w : World) : Calls Tryz.prog 91 #[.string (bs l)] w fun e w' => e = .returned (.int .i64 (kindOf l)) ∧ w' = w := by
  have hto := bs_toL
  go_enter Tryz.func91, Tryz.ntmps91
  go_wp2_with fail
  go_loop [3] (fun i => ∃ k : Nat, k ≤ 7 ∧ i = .int .i64 k ∧ KNo l k) (fun i => 7 - (intOf i).toNat)
  case atStart => exact ⟨0, by omega, rfl, fun j hj => by omega⟩
  case round =>
    obtain ⟨k, hk, rfl, hno⟩ := hrel
    have HN := Lib.hid hno
    clear hno
    by_cases hlt : k ≤ 6
    · go_wp2_with fail
      refine (iWord k w).mono ?_
      rintro e w' ⟨rfl, rfl⟩
      by_cases he : wordOf k = l
      · have HE := Lib.hid he
        have e2 : (wordOf k == l) = true := by rw [beq_iff_eq]; exact he
        clear he
        go_wp2_with fail
        go_ret
        exact ⟨ret_int (kindOf_at HN.out hlt HE.out).symm, rfl⟩
      · have HE : Hid (KNo l (k + 1)) := fun j hj => by
          by_cases h : j = k
          · subst h; exact he
          · exact HN.out j (by omega)
        have e2 : (wordOf k == l) = false := by rw [beq_eq_false_iff_ne]; exact he
        clear he
        go_wp2_with fail
        go_round
        case rel => exact ⟨k + 1, by omega, by go_num, HE.out⟩
        case measure => simp [intOf]; omega
    · obtain rfl : k = 7 := by omega
      go_wp2_with fail
      go_ret
      exact ⟨ret_int (kindOf_none HN.out).symm, rfl⟩
end Go.Proofs.YtnomlkkhkacajaaGreatDoor
namespace Go.Proofs.YtnomlkkhkacajaaGreatDoor
open Go.RowKit Go.Lib

theorem gTab : Tryz.prog.globalNamed Tryz.tabName = some 1 := by kernel_rfl
theorem gSyn : Tryz.prog.globalNamed "strconv.ErrSyntax" = some 2 := by kernel_rfl
theorem gRng : Tryz.prog.globalNamed "strconv.ErrRange" = some 3 := by kernel_rfl
/-- The variables' blocks stay. -/
def Kp (w w' : World) : Prop := ∀ i o, i < 6 → w.heap[i]? = some o → w'.heap[i]? = some o
theorem Kp.refl (w : World) : Kp w w := fun _ _ _ h => h
theorem Kp.trans {a b c : World} (h : Kp a b) (k : Kp b c) : Kp a c := fun i o hi ho => k i o hi (h i o hi ho)
theorem Kp.below {w w' : World} (h : Below w.heap.size w w') : Kp w w' := fun i _ _ ho => (h.block i (Array.getElem?_eq_some_iff.1 ho).1).trans ho
theorem Kp.pk {w w' : World} {g : Nat} (h : Pk g w w') (hg : 6 ≤ g) : Kp w w' := fun i _ hi ho => (h.block i (Array.getElem?_eq_some_iff.1 ho).1 (Nat.ne_of_lt (Nat.lt_of_lt_of_le hi hg))).trans ho
theorem Kp.drewN {a b : World} (h : Kp a b) (m : Nat) : Kp a (b.drewN m) := h
theorem var_keep {w w' : World} {name : String} {g : Nat} {cs : Array Value} (hg : Tryz.prog.globalNamed name = some g) (hG : g < 6) (hv : w.var? Tryz.prog name = some cs) (hk : Kp w w') : w'.var? Tryz.prog name = some cs := by
  unfold World.var? at *
  rw [hg] at *
  simp only [Option.bind_some] at *
  cases h : w.heap[g]? with
  | none => rw [h] at hv; cases hv
  | some o => rw [hk g o hG h]; rw [h] at hv; exact hv
/-- The table of strconv holds what it is laid with. -/
structure EnvT (w : World) : Prop where
  tab : TabIs Tryz.prog w Tryz.tabName .u64 pow10Tab
theorem EnvT.kp {w w' : World} (h : EnvT w) (hk : Kp w w') : EnvT w' := ⟨var_keep gTab (by decide) h.tab hk⟩
/-- The other variables hold what they are laid with. -/
structure EnvA (w : World) : Prop where
  tab : EnvT w
  syn : ∃ tp p, w.var? Tryz.prog "strconv.ErrSyntax" = some #[.iface tp p]
  rng : ∃ tp p, w.var? Tryz.prog "strconv.ErrRange" = some #[.iface tp p]
theorem EnvA.kp {w w' : World} (h : EnvA w) (hk : Kp w w') : EnvA w' := by
  obtain ⟨tp, p, h1⟩ := h.syn
  obtain ⟨tq, q, h2⟩ := h.rng
  exact ⟨h.tab.kp hk, ⟨tp, p, var_keep gSyn (by decide) h1 hk⟩, ⟨tq, q, var_keep gRng (by decide) h2 hk⟩⟩
theorem below_grow (w : World) (os : Array Obj) : Below w.heap.size w (Sort.grow w os) :=
  ⟨rfl, rfl, rfl, by simp, fun k hk => Sort.heap_grow_old w os hk⟩
theorem iItoa (n : Int) (h0 : -9223372036854775808 ≤ n) (h1 : n ≤ 9223372036854775807) (w : World) (h : EnvT w) :
    Calls Tryz.prog 68 #[.int .i64 n] w fun e w' => e = .returned (.string (bs (itoa n))) ∧ Below w.heap.size w w' := by
  refine (Tryz.strconv_Itoa n h0 h1 w h.tab).mono ?_
  rintro e w' ⟨rfl, k, os, rfl⟩
  exact ⟨rfl, (below_drewN (Below.refl _ _) k).trans (below_grow (w.drewN k) os)⟩
theorem iAtoi (l : Txt) (hl : l.length ≤ 281474976710656) (w : World) (h : EnvA w) :
    Calls Tryz.prog 122 #[.string (bs l)] w fun e w' => (∃ n, atoiAll l = .ok n ∧ e = .returned (.tuple #[.int .i64 n, .nilIface]) ∧ Below w.heap.size w w') ∨ ((∀ n, atoiAll l ≠ .ok n) ∧ ∃ n tp p, e = .returned (.tuple #[.int .i64 n, .iface tp p]) ∧ Below w.heap.size w w') := by
  have hs : (bs l).size ≤ 281474976710656 := by rw [bs_size]; exact hl
  cases ha : atoiAll l with
  | ok n =>
    refine (Tryz.strconv_Atoi_ok (bs l) (by omega) n (by rw [bs_data]; exact ha) w).mono ?_
    rintro e w' ⟨rfl, hw⟩
    refine .inl ⟨n, rfl, rfl, ?_⟩
    rcases hw with rfl | ⟨t, rfl⟩
    · exact Below.refl _ _
    · exact bytesWorld_below _ _ _
  | range =>
    obtain ⟨tp, p, hr⟩ := h.rng
    refine (Tryz.strconv_Atoi_range_var (bs l) hs (by rw [bs_data]; exact ha) tp p w hr).mono ?_
    rintro e w' ⟨N, rfl, _, _, hb⟩
    exact .inr ⟨fun n h => (by cases h), _, _, _, rfl, hb⟩
  | _ =>
    obtain ⟨tp, p, hr⟩ := h.syn
    refine (Tryz.strconv_Atoi_syntax_var (bs l) hs (by rw [bs_data]; exact ha) tp p w hr).mono ?_
    rintro e w' ⟨N, rfl, _, _, hb⟩
    exact .inr ⟨fun n h => (by cases h), _, _, _, rfl, hb⟩
def ov (o : Option Int) : Value := .int .i64 (o.getD 0)
theorem bs_toList (l : Txt) : (bs l).toList = l := by rw [toList_data, bs_data]

set_option maxRecDepth 100000 in
theorem iWhole (l : Txt) (lo hi : Int) (hl : l.length ≤ 281474976710656) (h0 : -9223372036854775808 ≤ lo) (h1 : hi ≤ 9223372036854775807) (w : World) (h : EnvA w) :
    Calls Tryz.prog 92 #[.string (bs l), .int .i64 lo, .int .i64 hi] w fun e w' => e = .returned (.tuple #[ov (whole? l lo hi), .bool (whole? l lo hi).isSome]) ∧ Below w.heap.size w w' := by
  have no : ∀ w', Below w.heap.size w w' → whole? l lo hi = none → Ending.returned (.tuple #[.int .i64 0, .bool false]) = .returned (.tuple #[ov (whole? l lo hi), .bool (whole? l lo hi).isSome]) ∧ Below w.heap.size w w' := fun w' hb h => by rw [h]; exact ⟨rfl, hb⟩
  have NO := Lib.hid no
  have HE := Lib.hid h
  clear no h
  go_enter Tryz.func92, Tryz.ntmps92
  go_wp2_with fail
  refine (iAtoi l hl w HE.out).mono ?_
  rintro e w1 (⟨n, ha, rfl, hb⟩ | ⟨ha, n, tp, p, rfl, hb⟩)
  · have HB := Lib.hid hb
    have HA := Lib.hid ha
    clear hb ha
    by_cases h2 : n < lo
    · go_wp2_with fail
      go_ret2
      exact NO.out _ HB.out (by unfold whole?; rw [HA.out]; exact if_neg (by omega))
    by_cases h3 : hi < n
    · go_wp2_with fail
      go_ret2
      exact NO.out _ HB.out (by unfold whole?; rw [HA.out]; exact if_neg (by omega))
    go_wp2_with fail
    refine (iItoa n (by omega) (by omega) w1 (HE.out.tab.kp (Kp.below HB.out))).mono ?_
    rintro e w2 ⟨rfl, hb2⟩
    have HB2 : Hid (Below w.heap.size w w2) := HB.out.trans (hb2.mono HB.out.size)
    clear hb2
    by_cases he : itoa n = l
    · have e1 := bs_toList
      go_wp2_with fail
      go_ret2
      have hw : whole? l lo hi = some n := (whole?_iff h0 h1).2 ⟨he.symm, by omega, by omega⟩
      rw [hw]
      exact ⟨rfl, HB2.out⟩
    · have e1 := bs_toList
      have e2 : (itoa n == l) = false := by rw [beq_eq_false_iff_ne]; exact he
      have HN : Hid (whole? l lo hi = none) := by
        show _ = _
        unfold whole?
        rw [HA.out]
        exact if_neg (fun hh => he hh.2.2)
      go_wp2_with fail
      go_ret2
      exact NO.out _ HB2.out HN.out
  · have HB := Lib.hid hb
    have HA := Lib.hid ha
    clear hb ha
    go_wp2_with fail
    go_ret2
    exact NO.out _ HB.out (by
      unfold whole?
      split
      · rename_i m hm; exact absurd hm (HA.out m)
      · rfl)
end Go.Proofs.YtnomlkkhkacajaaGreatDoor
namespace Go.Proofs.YtnomlkkhkacajaaGreatDoor
open Go.RowKit Go.Lib

theorem bs_extract (l : Txt) (a b : Nat) : (bs l).extract a b = bs ((l.drop a).take (b - a)) := by rw [extract_eq, bs_data]; rfl
theorem digs_neg {r : Txt} : digs (45 :: r) = if r = [] then digs0 [45] |>.map Int.ofNat else (digs0 r).bind fun u => if 0 < u then some (-(u : Int)) else none := by
  unfold digs
  cases r with
  | nil => rfl
  | cons a r => rfl
theorem digs_pos {l : Txt} (h : ¬ (1 < l.length ∧ l.head? = some 45)) : digs l = (digs0 l).map Int.ofNat := by
  unfold digs
  rw [if_neg h]
theorem digs0_minus {r : Txt} (h : r.head? = some 45) : digs0 r = none := by
  cases h2 : digs0 r with
  | none => rfl
  | some u =>
    have h3 := (digs0_iff.1 h2).1
    cases r with
    | nil => cases h
    | cons a r =>
      simp only [List.head?_cons, Option.some.injEq] at h
      have h4 := decDigits_digit u a (by rw [← h3]; exact List.mem_cons_self)
      subst h
      exact absurd h4.1 (by decide)
set_option maxRecDepth 100000 in
set_option maxHeartbeats 1000000 in
/-- A number of digits, with a sign or not. -/
theorem sDigits (l : Txt) (hl : l.length ≤ 4611686018427387904) (w : World) : Calls Tryz.prog 57 #[.string (bs l)] w (RetG (digs l) w) := by
  induction hN : l.length using Nat.strongRecOn generalizing l with
  | _ N ih =>
    by_cases hm : 1 < l.length ∧ l.head? = some 45
    · cases l with
      | nil => simp at hm
      | cons c r =>
        obtain ⟨h1, h2⟩ := hm
        simp only [List.head?_cons, Option.some.injEq] at h2
        subst h2
        have hr : r ≠ [] := by rintro rfl; simp at h1
        have K : Hid (Calls Tryz.prog 57 #[.string (bs r)] w (RetG (digs r) w)) := ih r.length (by rw [← hN]; simp) r (by simp at hl; omega) rfl
        have E : Hid (digs (45 :: r) = (digs0 r).bind fun u => if 0 < u then some (-(u : Int)) else none) := by
          show _ = _
          rw [digs_neg, if_neg hr]
        obtain ⟨n, hn⟩ : ∃ n, n = (45 :: r).length := ⟨_, rfl⟩
        have hsz : (bs (45 :: r)).size = n := by rw [bs_size, hn]
        have hn1 : 1 < n := by omega
        have hb0 : ∀ h, ((bs (45 :: r))[0]'h).toNat = 45 := fun h => by rw [bs_get (45 :: r) 0 (by simp)]; rfl
        have hx : (bs (45 :: r)).extract 1 n = bs r := by
          rw [bs_extract, hn]; simp
        -- the number behind the sign
        have D : Hid (∀ m : Int, (∀ k, digs r = some k → m = k) → RetG (digs (45 :: r)) w (.returned (.tuple #[.int .i64 (-m), .bool ((digs r).isSome && decide (0 < m))])) w ∨ ¬ (-9999999 ≤ m ∧ m ≤ 9999999)) := by
          intro m hm
          by_cases hbd : -9999999 ≤ m ∧ m ≤ 9999999
          · left
            rw [E.out]
            by_cases hmin : 1 < r.length ∧ r.head? = some 45
            · have h0 := digs0_minus hmin.2
              rw [h0]
              have hb : ((digs r).isSome && decide (0 < m)) = false := by
                cases hd : digs r with
                | none => rfl
                | some k =>
                  have hmk := hm k hd
                  have : k < 0 := by
                    unfold digs at hd
                    rw [if_pos hmin] at hd
                    cases h5 : digs0 r.tail with
                    | none => rw [h5] at hd; cases hd
                    | some u =>
                      rw [h5] at hd
                      simp only [Option.bind_some] at hd
                      split at hd
                      · cases hd; omega
                      · cases hd
                  simp; omega
              rw [hb]
              exact ⟨-m, rfl, (fun n hn => by cases hn), by omega, by omega, rfl⟩
            · have hp := digs_pos hmin
              cases h0 : digs0 r with
              | none =>
                rw [h0] at hp
                rw [hp]
                exact ⟨-m, rfl, (fun n hn => by cases hn), by omega, by omega, rfl⟩
              | some u =>
                rw [h0] at hp
                have hmk : m = u := hm _ hp
                rw [hp]
                simp only [Option.bind_some]
                by_cases hu : 0 < u
                · rw [if_pos hu]
                  refine ⟨-m, ?_, ?_, by omega, by omega, rfl⟩
                  · have : decide (0 < m) = true := by simp; omega
                    rw [this]; rfl
                  · intro n hn; cases hn; rw [hmk]
                · rw [if_neg hu]
                  refine ⟨-m, ?_, (fun n hn => by cases hn), by omega, by omega, rfl⟩
                  have : decide (0 < m) = false := by simp; omega
                  rw [this, Bool.and_false]; rfl
          · exact .inr hbd
        clear ih h1 E hr hN hl hn
        go_enter Tryz.func57, Tryz.ntmps57
        go_wp2_with fail
        refine K.out.mono ?_
        rintro e w' ⟨m, rfl, hm, h3, h4, rfl⟩
        have e1 : IntKind.i64.wrap (-m) = -m := IntWalk.i64_in _ (by omega)
        have DM := Lib.hid ((D.out m hm).resolve_right (fun hh => hh ⟨h3, h4⟩))
        clear D hm
        generalize (digs r).isSome = b at *
        by_cases h0 : 0 < m
        · cases b with
          | true =>
            go_wp2_with fail
            go_ret2
            have := DM.out
            rw [show decide (0 < m) = true by simpa using h0] at this
            exact this
          | false =>
            go_wp2_with fail
            go_ret2
            exact DM.out
        · cases b with
          | true =>
            go_wp2_with fail
            go_ret2
            exact DM.out
          | false =>
            go_wp2_with fail
            go_ret2
            exact DM.out
    · rw [digs_pos hm]
      exact sDigits0 l w hl hm
end Go.Proofs.YtnomlkkhkacajaaGreatDoor
namespace Go.Proofs.YtnomlkkhkacajaaGreatDoor
open Go.RowKit
open Go.Lib hiding intOf

theorem Tryz.eS : Elem Tryz.prog 45 9 (.string ⟨#[]⟩) 16 := Elem.mk' Tryz.underlying45 (by kernel_rfl) rfl
theorem drop_take_next {l : Txt} {f k : Nat} (hf : f ≤ k) (hk : k < l.length) : (l.drop f).take (k + 1 - f) = (l.drop f).take (k - f) ++ [l[k]] := by
  rw [show k + 1 - f = (k - f) + 1 by omega, List.take_succ_eq_append_getElem (by rw [List.length_drop]; omega), List.getElem_drop]
  congr 3; omega
theorem drop_split {l : Txt} {f k : Nat} (hf : f ≤ k) (hk : k < l.length) : l.drop f = (l.drop f).take (k - f) ++ l[k] :: l.drop (k + 1) := by
  conv => lhs; rw [← List.take_append_drop (k - f) (l.drop f)]
  rw [List.drop_drop, show f + (k - f) = k by omega, List.drop_eq_getElem_cons hk]
/-- A list of texts. -/
def RetW (w : World) (ws : List Txt) (e : Ending) (w' : World) : Prop := ∃ A m c, e = .returned (.slice A m c) ∧ Ow w' w.heap.size 9 (.slice A m c) m (ws.map sv) ∧ Below w.heap.size w w'
theorem sv_one (l : Txt) : ∀ u ∈ [Value.string (bs l)], u.oneCell' = true := by intro u hu; rw [List.mem_singleton.1 hu]; rfl

set_option maxRecDepth 100000 in
set_option maxHeartbeats 1000000 in
theorem sCut (l : Txt) (sp : UInt8) (hl : l.length ≤ 4294967280) (w : World) : Calls Tryz.prog 56 #[.string (bs l), .int .u8 sp.toNat] w (RetW w (cutAll sp l)) := by
  obtain ⟨n, hn⟩ : ∃ n, n = l.length := ⟨_, rfl⟩
  have hsz : (bs l).size = n := by rw [bs_size, hn]
  have hn2 : n ≤ 4294967280 := by omega
  have hx := bs_extract l
  have he := Ow.empty w 9
  have hb0 := below_alloc w (.cells #[] 9)
  have HN := Lib.hid hn
  have HE := Lib.hid he
  have HB0 := Lib.hid hb0
  have HA : Hid (∀ (k : Nat) (_ : k < n), ∃ d : Nat, d < 256 ∧ (∀ h, ((bs l)[k]'h).toNat = d) ∧ ∀ h : k < l.length, (l[k]).toNat = d) := fun k hk =>
    ⟨(l[k]'(by omega)).toNat, UInt8.toNat_lt _, fun h => bs_get l k (by omega) h, fun _ => rfl⟩
  obtain ⟨s, hs⟩ : ∃ s, s = sp.toNat := ⟨_, rfl⟩
  rw [← hs]
  have HS := Lib.hid hs
  clear hn he hb0 hs hl
  go_enter Tryz.func56, Tryz.ntmps56
  go_wp2_with fail
  go_loopw [5, 6, 7] (fun v fv i wr => ∃ (k f : Nat) (ws : List Txt), f ≤ k ∧ k ≤ n ∧ fv = .int .i64 f ∧ i = .int .i64 k ∧ ws.length ≤ k ∧ sp ∉ (l.drop f).take (k - f) ∧ cutAll sp l = ws ++ cutAll sp (l.drop f) ∧ Ow wr w.heap.size 9 v ws.length (ws.map sv) ∧ Below w.heap.size w wr) (fun _ _ i _ => n - (intOf i).toNat)
  case atStart => exact ⟨0, 0, [], by omega, by omega, rfl, rfl, by simp, by simp, by simp, HE.out, HB0.out⟩
  case round =>
    obtain ⟨k, f, ws, hf, hk, rfl, rfl, hws, hno, hcut, ho, hb⟩ := hrel
    have HNO := Lib.hid hno
    have HC := Lib.hid hcut
    have HB := Lib.hid hb
    have HO := Lib.hid ho
    clear hno hcut hb ho
    by_cases hlt : k < n
    · obtain ⟨d, hd, hbk, hd2⟩ := HA.out k hlt
      have HD := Lib.hid (hd2 (by rw [← HN.out]; exact hlt))
      clear hd2
      by_cases hds : d = s
      · have hck : ((d : Int) == (s : Int)) = true := by rw [beq_iff_eq]; omega
        have hc : l[k]'(by rw [← HN.out]; exact hlt) = sp := UInt8.toNat_inj.1 (by rw [HD.out, ← HS.out]; exact hds)
        have HNX : Hid (cutAll sp l = (ws ++ [(l.drop f).take (k - f)]) ++ cutAll sp (l.drop (k + 1))) := by
          show _ = _
          have e := drop_split (l := l) hf (by rw [← HN.out]; exact hlt)
          have e2 := cutAll_at (l.drop (k + 1)) HNO.out
          rw [hc] at e
          rw [← e] at e2
          rw [HC.out, e2, List.append_assoc]
          rfl
        have hsz2 := HB.out.size
        clear hds hc
        go_wp2_with (at_builtin; refine wl_appB w.heap.size [.string (bs ((l.drop f).take (k - f)))] hsz2 rfl (.tmp 20) (.tmp 25) 45 rfl Tryz.eS _ ws.length _ rfl HO.out rfl (sv_one _) (by simp [maxLen]; omega) (by simp; omega) ?_; intro v' w4 ho4 hb4)
        go_roundw
        case rel => exact ⟨k + 1, k + 1, ws ++ [(l.drop f).take (k - f)], by omega, by omega, by go_num, by go_num, by simp; omega, by simp, HNX.out, by rw [List.map_append, List.length_append]; exact ho4, HB.out.trans (hb4.mono (Nat.le_refl _))⟩
        case measure => simp [intOf]; omega
      · have hck : ((d : Int) == (s : Int)) = false := by rw [beq_eq_false_iff_ne]; omega
        clear hds
        go_wp2_with fail
        go_roundw
        case rel =>
          refine ⟨k + 1, f, ws, by omega, by omega, by go_num, by go_num, by omega, ?_, HC.out, HO.out, HB.out⟩
          rw [drop_take_next hf (by rw [← HN.out]; exact hlt)]
          intro hm
          rcases List.mem_append.1 hm with hm | hm
          · exact HNO.out hm
          · have hc := List.mem_singleton.1 hm
            have := HD.out
            rw [← hc, ← HS.out] at this
            rw [this] at hck
            simp at hck
        case measure => simp [intOf]; omega
    · obtain rfl : k = n := by omega
      have hsz2 := HB.out.size
      have HW : Hid (cutAll sp l = ws ++ [(l.drop f).take (k - f)]) := by
        show _ = _
        have e : (l.drop f).take (k - f) = l.drop f := List.take_of_length_le (by rw [List.length_drop, ← HN.out]; omega)
        have h2 := HNO.out
        rw [e] at h2
        rw [HC.out, cutAll_no h2, e]
      go_wp2_with (at_builtin; refine wl_appB w.heap.size [.string (bs ((l.drop f).take (k - f)))] hsz2 rfl (.tmp 29) (.tmp 33) 45 rfl Tryz.eS _ ws.length _ rfl HO.out rfl (sv_one _) (by simp [maxLen]; omega) (by simp; omega) ?_; intro v' w4 ho4 hb4)
      obtain ⟨A4, c4, rfl⟩ := ho4.shape
      go_ret
      refine ⟨A4, _, c4, rfl, ?_, HB.out.trans hb4⟩
      rw [HW.out, List.map_append]
      exact ho4
end Go.Proofs.YtnomlkkhkacajaaGreatDoor
