/- The reference's readers: a number in digits, the words of a text, a plain text. -/
import Derived.Test.YtemcdeopehdggaaDoorU1
namespace Go.Proofs.YtemcdeopehdggaaDoor
open Go.RowKit Go.Lib

theorem bs_get (l : Txt) (k : Nat) (_ : k < l.length) (h2 : k < (bs l).size) : ((bs l)[k]'h2).toNat = (l[k]).toNat := by
  rfl
theorem decFrom_none {l : Txt} {k n : Nat} (hk : k < l.length) (h : decFrom 0 (l.take k) = some n) (hc : ¬ (48 ≤ (l[k]).toNat ∧ (l[k]).toNat ≤ 57)) : decFrom 0 l = none := by
  have e : l = l.take k ++ l[k] :: l.drop (k + 1) := by
    rw [List.getElem_cons_drop, List.take_append_drop]
  rw [e, decFrom_append, h]
  show decFrom n (l[k] :: l.drop (k + 1)) = none
  simp only [decFrom, digitVal, if_neg hc]
theorem decFrom_step {l : Txt} {k n : Nat} (hk : k < l.length) (h : decFrom 0 (l.take k) = some n) (h1 : 48 ≤ (l[k]).toNat) (h2 : (l[k]).toNat ≤ 57) : decFrom 0 (l.take (k + 1)) = some (10 * n + ((l[k]).toNat - 48)) := by
  rw [List.take_succ_eq_append_getElem hk, decFrom_append, h]
  show decFrom n [l[k]] = _
  rw [decFrom_one n _ h1 h2, Nat.mul_comm]
def RetG (o : Option Int) (w : World) (e : Ending) (w' : World) : Prop := ∃ m : Int, e = .returned (.tuple #[.int .i64 m, .bool o.isSome]) ∧ (∀ n, o = some n → m = n) ∧ -9999999 ≤ m ∧ m ≤ 9999999 ∧ w' = w
theorem RetG.no {o : Option Int} (h : o = none) (w : World) : RetG o w (.returned (.tuple #[.int .i64 0, .bool false])) w := by subst h; exact ⟨0, rfl, (fun n hn => by cases hn), by omega, by omega, rfl⟩
theorem RetG.yes {o : Option Int} {m : Int} (h : o = some m) (h1 : -9999999 ≤ m) (h2 : m ≤ 9999999) (w : World) : RetG o w (.returned (.tuple #[.int .i64 m, .bool true])) w := by subst h; exact ⟨m, rfl, (fun n hn => by cases hn; rfl), h1, h2, rfl⟩

set_option maxRecDepth 100000 in
set_option maxHeartbeats 1000000 in
theorem sDigits0 (l : Txt) (w : World) (hl : l.length ≤ 4611686018427387904) (hm : ¬ (1 < l.length ∧ l.head? = some 45)) :
    Calls Tryd.prog 48 #[.string (bs l)] w (RetG ((digs0 l).map Int.ofNat) w) := by
  obtain ⟨n, hn⟩ : ∃ n, n = l.length := ⟨_, rfl⟩
  have hsz : (bs l).size = n := by rw [bs_size, hn]
  have HN := Lib.hid hn
  have hin := fun n lo hi w => l1In_any n lo hi w
  have HIN := Lib.hid hin
  clear hin
  -- the first byte
  by_cases h0 : n = 0
  · have hz : (digs0 l).map Int.ofNat = none := by unfold digs0; rw [if_pos (.inl (by omega))]; rfl
    have HZ := Lib.hid hz
    subst h0
    clear hn hz hm hl
    go_enter Tryd.func48, Tryd.ntmps48
    go_wp2_with fail
    refine (HIN.out _ _ _ _).mono ?_
    rintro e w' ⟨rfl, rfl⟩
    rw [show inB 0 1 7 = false from rfl]
    go_wp2_with fail
    go_ret2
    exact RetG.no HZ.out _
  · obtain ⟨c, hc⟩ : ∃ c, c = (l[0]'(by omega)).toNat := ⟨_, rfl⟩
    have hb0 : ∀ h, ((bs l)[0]'h).toNat = c := fun h => by rw [bs_get l 0 (by omega)]; exact hc.symm
    have hhd : ∀ x : UInt8, l.head? = some x ↔ x.toNat = c := by
      intro x
      cases l with
      | nil => simp at hn; omega
      | cons a r =>
        simp only [List.head?_cons, Option.some.injEq]
        rw [hc]
        exact ⟨fun h => by rw [← h]; rfl, fun h => (UInt8.toNat_inj.1 h).symm⟩
    have hc45 : ¬ (1 < n ∧ c = 45) := fun h => hm ⟨by omega, (hhd 45).2 h.2.symm⟩
    have HG : Hid (¬ (n < 1 ∨ 7 < n ∨ (1 < n ∧ c = 48)) → digs0 l = decFrom 0 l) := by
      intro h
      unfold digs0
      rw [if_neg]
      rintro (h2 | h2 | h2)
      · omega
      · omega
      · exact h (.inr (.inr ⟨by omega, ((hhd 48).1 h2.2).symm⟩))
    have HB : Hid ((n < 1 ∨ 7 < n ∨ (1 < n ∧ c = 48)) → (digs0 l).map Int.ofNat = none) := by
      intro h
      unfold digs0
      rw [if_pos]
      · rfl
      rcases h with h | h | h
      · exact .inl (by omega)
      · exact .inr (.inl (by omega))
      · exact .inr (.inr ⟨by omega, (hhd 48).2 h.2.symm⟩)
    have hall : ∀ (k : Nat) (_ : k < n), ∃ d : Nat, d < 256 ∧ (∀ h, ((bs l)[k]'h).toNat = d) ∧ ∀ h : k < l.length, (l[k]).toNat = d := fun k hk =>
      ⟨(l[k]'(by omega)).toNat, UInt8.toNat_lt _, fun h => bs_get l k (by omega) h, fun _ => rfl⟩
    have HA := Lib.hid hall
    have hn4 : n ≤ 4611686018427387904 := by omega
    clear hall hhd hm hc hl
    have FIN : Hid (∀ e w', e = Ending.returned (.tuple #[.int .i64 0, .bool false]) → w' = w → (digs0 l).map Int.ofNat = none → RetG ((digs0 l).map Int.ofNat) w e w') := fun e w' h1 h2 h3 => by rw [h1, h2]; exact RetG.no h3 w
    clear hn
    by_cases h1 : n = 1
    · have GD := Lib.hid (HG.out (by omega))
      subst h1
      clear hc45
      go_enter Tryd.func48, Tryd.ntmps48
      go_wp2_with fail
      refine (HIN.out _ _ _ _).mono ?_
      rintro e w' ⟨rfl, rfl⟩
      rw [show inB 1 1 7 = true from rfl]
      go_wp2_with fail
      go_loopw [6, 7] (fun v i wr => ∃ (k m : Nat), k ≤ 1 ∧ i = .int .i64 k ∧ v = .int .i64 m ∧ decFrom 0 (l.take k) = some m ∧ m < 10 ^ k ∧ wr = w') (fun _ i _ => 1 - (intOf i).toNat)
      case atStart => exact ⟨0, 0, by omega, rfl, rfl, rfl, by decide, rfl⟩
      case round =>
        obtain ⟨k, m, hk, rfl, rfl, hd, hm, rfl⟩ := hrel
        have hm7 : m < 10000000 := by
          have h3 : (10 : Nat) ^ k ≤ 10 ^ 7 := Nat.pow_le_pow_right (by omega) (by omega)
          have h4 : (10 : Nat) ^ 7 = 10000000 := by decide
          omega
        have HD := Lib.hid hd
        have HM := Lib.hid hm
        clear hd hm
        by_cases hlt : k < 1
        · obtain ⟨d, hd, hb, hb2⟩ := HA.out k hlt
          have HB2 := Lib.hid (hb2 (by rw [← HN.out]; exact hlt))
          clear hb2
          by_cases hlo : d < 48
          · have hlo2 : (d : Int) < 48 := by omega
            go_wp2_with fail
            go_ret2
            exact FIN.out _ _ rfl rfl (by rw [GD.out, decFrom_none (by rw [← HN.out]; exact hlt) HD.out (by rw [HB2.out]; omega)]; rfl)
          · by_cases hhi : 57 < d
            · have hlo2 : ¬ (d : Int) < 48 := by omega
              have hhi2 : 57 < (d : Int) := by omega
              go_wp2_with fail
              go_ret2
              exact FIN.out _ _ rfl rfl (by rw [GD.out, decFrom_none (by rw [← HN.out]; exact hlt) HD.out (by rw [HB2.out]; omega)]; rfl)
            · have hlo2 : ¬ (d : Int) < 48 := by omega
              have hhi2 : ¬ 57 < (d : Int) := by omega
              have e1 : IntKind.u8.wrap ((d : Int) - 48) = (d : Int) - 48 := IntWalk.u8_in _ (by omega)
              go_wp2_with fail
              go_roundw
              case rel => exact ⟨k + 1, 10 * m + (d - 48), by omega, by go_num, by go_num, by rw [decFrom_step (by rw [← HN.out]; exact hlt) HD.out (by rw [HB2.out]; omega) (by rw [HB2.out]; omega), HB2.out], by have := HM.out; rw [Nat.pow_succ]; omega, by trivial⟩
              case measure => simp [intOf]; omega
        · obtain rfl : k = 1 := by omega
          go_wp2_with fail
          go_ret2
          have hall : digs0 l = some m := by rw [GD.out, ← HD.out, HN.out, List.take_length]
          exact RetG.yes (by rw [hall]; rfl) (by omega) (by omega) _
    · have hn1 : 1 < n := by omega
      have hc : ((c : Int) == 45) = false := by rw [beq_eq_false_iff_ne]; omega
      clear hc45
      by_cases h7 : 7 < n
      · have e7 : inB (n : Int) 1 7 = false := inB_hi (by omega)
        have HZ := Lib.hid (HB.out (by omega))
        go_enter Tryd.func48, Tryd.ntmps48
        go_wp2_with fail
        refine (HIN.out _ _ _ _).mono ?_
        rintro e w' ⟨rfl, rfl⟩
        rw [e7]
        go_wp2_with fail
        go_ret2
        exact FIN.out _ _ rfl rfl HZ.out
      have e7 : inB (n : Int) 1 7 = true := inB_true (by omega) (by omega)
      by_cases h48 : c = 48
      · have hc2 : ((c : Int) == 48) = true := by rw [beq_iff_eq]; omega
        have HZ := Lib.hid (HB.out (by omega))
        clear h48
        go_enter Tryd.func48, Tryd.ntmps48
        go_wp2_with fail
        refine (HIN.out _ _ _ _).mono ?_
        rintro e w' ⟨rfl, rfl⟩
        rw [e7]
        go_wp2_with fail
        go_ret2
        exact FIN.out _ _ rfl rfl HZ.out
      have hc2 : ((c : Int) == 48) = false := by rw [beq_eq_false_iff_ne]; omega
      have GD := Lib.hid (HG.out (by omega))
      go_enter Tryd.func48, Tryd.ntmps48
      go_wp2_with fail
      refine (HIN.out _ _ _ _).mono ?_
      rintro e w' ⟨rfl, rfl⟩
      rw [e7]
      go_wp2_with fail
      go_loopw [6, 7] (fun v i wr => ∃ (k m : Nat), k ≤ n ∧ i = .int .i64 k ∧ v = .int .i64 m ∧ decFrom 0 (l.take k) = some m ∧ m < 10 ^ k ∧ wr = w') (fun _ i _ => n - (intOf i).toNat)
      case atStart => exact ⟨0, 0, by omega, rfl, rfl, rfl, by decide, rfl⟩
      case round =>
        obtain ⟨k, m, hk, rfl, rfl, hd, hm, rfl⟩ := hrel
        have hm7 : m < 10000000 := by
          have h3 : (10 : Nat) ^ k ≤ 10 ^ 7 := Nat.pow_le_pow_right (by omega) (by omega)
          have h4 : (10 : Nat) ^ 7 = 10000000 := by decide
          omega
        have HD := Lib.hid hd
        have HM := Lib.hid hm
        clear hd hm
        by_cases hlt : k < n
        · obtain ⟨d, hd, hb, hb2⟩ := HA.out k hlt
          have HB2 := Lib.hid (hb2 (by rw [← HN.out]; exact hlt))
          clear hb2
          by_cases hlo : d < 48
          · have hlo2 : (d : Int) < 48 := by omega
            go_wp2_with fail
            go_ret2
            exact FIN.out _ _ rfl rfl (by rw [GD.out, decFrom_none (by rw [← HN.out]; exact hlt) HD.out (by rw [HB2.out]; omega)]; rfl)
          · by_cases hhi : 57 < d
            · have hlo2 : ¬ (d : Int) < 48 := by omega
              have hhi2 : 57 < (d : Int) := by omega
              go_wp2_with fail
              go_ret2
              exact FIN.out _ _ rfl rfl (by rw [GD.out, decFrom_none (by rw [← HN.out]; exact hlt) HD.out (by rw [HB2.out]; omega)]; rfl)
            · have hlo2 : ¬ (d : Int) < 48 := by omega
              have hhi2 : ¬ 57 < (d : Int) := by omega
              have e1 : IntKind.u8.wrap ((d : Int) - 48) = (d : Int) - 48 := IntWalk.u8_in _ (by omega)
              go_wp2_with fail
              go_roundw
              case rel => exact ⟨k + 1, 10 * m + (d - 48), by omega, by go_num, by go_num, by rw [decFrom_step (by rw [← HN.out]; exact hlt) HD.out (by rw [HB2.out]; omega) (by rw [HB2.out]; omega), HB2.out], by have := HM.out; rw [Nat.pow_succ]; omega, by trivial⟩
              case measure => simp [intOf]; omega
        · obtain rfl : k = n := by omega
          go_wp2_with fail
          go_ret2
          have hall : digs0 l = some m := by rw [GD.out, ← HD.out, HN.out, List.take_length]
          exact RetG.yes (by rw [hall]; rfl) (by omega) (by omega) _
end Go.Proofs.YtemcdeopehdggaaDoor
