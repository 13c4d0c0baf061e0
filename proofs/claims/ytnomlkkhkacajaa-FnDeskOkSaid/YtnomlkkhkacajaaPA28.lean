/- Texts on the way to a law (U1, U2, U3), each with its own remark. -/
import Derived.Test.YtnomlkkhkacajaaPA27
import Derived.Test.YtnomlkkhkacajaaPA07
import Derived.Deep.RegionLaw
import Derived.Laws.BytesArg
import Derived.Lib.AtoiErrMem
import Derived.Lib.Agree
namespace Go.Proofs.Ytnomlkkhkacajaa
open Go.RowKit Go.Lib

/-- A text as a string. -/
def bs (l : Txt) : ByteArray := ⟨l.toArray⟩
def sv (l : Txt) : Value := .string (bs l)
theorem bs_data (l : Txt) : (bs l).data.toList = l := by simp [bs]
theorem bs_of (s : ByteArray) : bs s.data.toList = s := mk_data s
theorem bs_size (l : Txt) : (bs l).size = l.length := by rw [size_eq, bs_data]
theorem bs_inj {a b : Txt} : bs a = bs b ↔ a = b := ⟨fun h => by rw [← bs_data a, h, bs_data], fun h => by rw [h]⟩
theorem bs_append (a b : Txt) : bs a ++ bs b = bs (a ++ b) := by
  rw [← bs_of (bs a ++ bs b)]
  congr 1

/-- The string of one byte. -/
def oneB (c : Int) : ByteArray := bs [UInt8.ofNat c.toNat]
theorem conv_one (w : World) (c : Int) : (convert 22 9 (.slice (some ⟨w.heap.size, 0, none⟩) 1 1)).run Try.prog (w.alloc (.cells #[.int .u8 c] 5)) = .ok (.string (oneB c)) (w.alloc (.cells #[.int .u8 c] 5)) := by
  rw [run_convert_bytes_arg (w.alloc (.cells #[.int .u8 c] 5)) 22 5 Try.underlying22 Try.underlying5 w.heap.size 0 1 1 [c] rfl (fun i hi => by
    obtain rfl : i = 0 := by omega
    rw [World.cell?_alloc_at _ _ _ _ rfl]; rfl) 9 Try.underlying9]
  rfl
theorem conv_one_drew (w : World) (c : Int) : (convert 22 9 (.slice (some ⟨w.heap.size, 0, none⟩) 1 1)).run Try.prog (w.alloc (.cells #[.int .u8 c] 5)).drew = .ok (.string (oneB c)) (w.alloc (.cells #[.int .u8 c] 5)).drew := by
  rw [run_convert_bytes_arg (w.alloc (.cells #[.int .u8 c] 5)).drew 22 5 Try.underlying22 Try.underlying5 w.heap.size 0 1 1 [c] rfl (fun i hi => by
    obtain rfl : i = 0 := by omega
    rw [World.cell?_drew, World.cell?_alloc_at _ _ _ _ rfl]; rfl) 9 Try.underlying9]
  rfl
theorem conv_cell (w : World) (g : Nat) (c : Int) (h : w.cell? ⟨g, 0, none⟩ = some (.int .u8 c)) : (convert 22 9 (.slice (some ⟨g, 0, none⟩) 1 1)).run Try.prog w = .ok (.string (oneB c)) w := by
  rw [run_convert_bytes_arg w 22 5 Try.underlying22 Try.underlying5 g 0 1 1 [c] rfl (fun i hi => by
    obtain rfl : i = 0 := by omega
    exact h) 9 Try.underlying9]
  rfl
theorem conv_later {w w1 : World} {c : Int} (hb : Below ((w.alloc (.cells #[.int .u8 c] 5)).drew).heap.size (w.alloc (.cells #[.int .u8 c] 5)).drew w1) : (convert 22 9 (.slice (some ⟨w.heap.size, 0, none⟩) 1 1)).run Try.prog w1 = .ok (.string (oneB c)) w1 :=
  conv_cell w1 w.heap.size c ((hb.cell (p := ⟨w.heap.size, 0, none⟩) (by show w.heap.size < (w.heap.push _).size; rw [Array.size_push]; exact Nat.lt_succ_self _)).trans (by rw [World.cell?_drew, World.cell?_alloc_at _ _ _ _ rfl]; rfl))
theorem oneB_digit (d : Nat) (h : d < 10) : oneB (48 + (d : Int)) = bs (decDigits d) := by
  unfold oneB
  rw [decDigits_one h, show (48 + (d : Int)).toNat = 48 + d by omega]

theorem below_of_drew {w w' : World} (h : Below w.drew.heap.size w.drew w') : Below w.heap.size w w' := ⟨h.os, h.tape, h.output, h.size, h.block⟩
set_option maxRecDepth 100000 in
theorem sNumber0 (u : Nat) : ∀ w : World, u ≤ 4611686018427387904 → Calls Try.prog 44 #[.int .i64 u] w fun e w' => e = .returned (.string (bs (decDigits u))) ∧ Below w.heap.size w w' := by
  induction u using Nat.strongRecOn with
  | _ u ih =>
    intro w hu
    have hcv := conv_one
    have hcd := conv_one_drew
    by_cases h : u < 10
    · clear ih
      go_enter Try.func44, Try.ntmps44
      go_wp2_with fail
      go_ret
      refine ⟨?_, below_alloc _ _⟩
      rw [← oneB_digit u h]
      rfl
    · obtain ⟨q, hq⟩ : ∃ q, q = u / 10 := ⟨_, rfl⟩
      obtain ⟨d, hd⟩ : ∃ d, d = u % 10 := ⟨_, rfl⟩
      have K : Hid (∀ w, Calls Try.prog 44 #[.int .i64 q] w fun e w' => e = .returned (.string (bs (decDigits q))) ∧ Below w.heap.size w w') := fun w => ih q (by omega) w (by omega)
      have e1 : (u : Int) / 10 = q := by omega
      have e2 : (u : Int).tmod 10 = d := by rw [Int.tmod_eq_emod_of_nonneg (by omega)]; omega
      have e3 : decDigits u = decDigits q ++ decDigits d := by
        rw [decDigits, dif_neg h, ← hq, ← hd, decDigits_one (show d < 10 by omega)]
      have hq2 : q ≤ 461168601842738790 := by omega
      have hd2 : d < 10 := by omega
      have E3 := Lib.hid e3
      have w1 : IntKind.i64.wrap (q : Int) = q := IntWalk.i64_in _ (by omega)
      have w2 : IntKind.i64.wrap (48 + (d : Int)) = 48 + d := IntWalk.i64_in _ (by omega)
      have w3 : IntKind.u8.wrap (48 + (d : Int)) = 48 + d := IntWalk.u8_in _ (by omega)
      have hz1 : (bs (decDigits q)).size ≤ 20 := by
        rw [bs_size, decDigits_length]; exact nDigits_le20 q (by omega)
      have hz2 : (oneB (48 + (d : Int))).size = 1 := by unfold oneB; rw [bs_size]; rfl
      have hz : ¬ 9223372036854775807 < (bs (decDigits q)).size + (oneB (48 + (d : Int))).size := by omega
      clear hz1 hz2
      have h10 : ((u : Int) < 10) = False := by simp; omega
      clear ih hq hd e3
      go_enter Try.func44, Try.ntmps44
      go_wp2_with fail
      go_region_law ((go_simp; go_at_call 44; (with_reducible refine Calls.mono (K.out _) ?_); rintro e w1 ⟨rfl, hb⟩; first | (have hcx := conv_later hb) | skip))
      all_goals
        go_wp2_with fail
        go_ret
        refine ⟨?_, ?_⟩
        · show Ending.returned (.string (bs (decDigits q) ++ oneB (48 + (d : Int)))) = _
          rw [E3.out, oneB_digit d hd2, bs_append]
        · first
            | exact (below_of_drew hb).alloc (below_of_drew hb).size _
            | exact (below_alloc w _).trans ((below_of_drew hb).mono (by show w.heap.size ≤ (w.heap.push _).size; rw [Array.size_push]; omega))
set_option maxRecDepth 100000 in
/-- A number's text, by the reference. -/
theorem sNumber (n : Int) (h0 : -4611686018427387904 ≤ n) (h1 : n ≤ 4611686018427387904) (w : World) : Calls Try.prog 44 #[.int .i64 n] w fun e w' => e = .returned (.string (bs (itoa n))) ∧ Below w.heap.size w w' := by
  by_cases hn : n < 0
  · obtain ⟨u, rfl⟩ : ∃ u : Nat, n = -(u : Int) := ⟨n.natAbs, by omega⟩
    have K := sNumber0 u
    have e1 : IntKind.i64.wrap (u : Int) = u := IntWalk.i64_in _ (by omega)
    have e2 : (-(u : Int) == (u : Int)) = false := by rw [beq_eq_false_iff_ne]; omega
    have hz1 : (bs (decDigits u)).size ≤ 20 := by rw [bs_size, decDigits_length]; exact nDigits_le20 u (by omega)
    have HU : u ≤ 4611686018427387904 := by omega
    have HK := Lib.hid K
    clear K
    go_enter Try.func44, Try.ntmps44
    go_wp2_with fail
    refine (HK.out _ HU).mono ?_
    rintro e w1 ⟨rfl, hb⟩
    go_wp2_with fail
    go_ret
    refine ⟨?_, hb⟩
    rw [itoa_neg u (by omega)]
    show Ending.returned (.string (bs [45] ++ bs (decDigits u))) = _
    rw [bs_append]; rfl
  · obtain ⟨u, rfl⟩ : ∃ u : Nat, n = u := ⟨n.toNat, by omega⟩
    rw [itoa_nonneg]
    exact sNumber0 u w (by omega)
end Go.Proofs.Ytnomlkkhkacajaa
namespace Go.Proofs.Ytnomlkkhkacajaa
open Go.RowKit
open Go.Lib hiding intOf

theorem bs_get (l : Txt) (k : Nat) (_ : k < l.length) (h2 : k < (bs l).size) : ((bs l)[k]'h2).toNat = (l[k]).toNat := by
  rfl
theorem decFrom_none {l : Txt} {k n : Nat} (hk : k < l.length) (h : decFrom 0 (l.take k) = some n) (hc : ¬ (48 ≤ (l[k]).toNat ∧ (l[k]).toNat ≤ 57)) : decFrom 0 l = none := by
  have e : l = l.take k ++ l[k] :: l.drop (k + 1) := by
    rw [List.getElem_cons_drop, List.take_append_drop]
  rw [e, decFrom_append, h]
  show decFrom n (l[k] :: l.drop (k + 1)) = none
  simp only [decFrom, digitVal, if_neg hc]
theorem decFrom_step {l : Txt} {k n : Nat} (hk : k < l.length) (h : decFrom 0 (l.take k) = some n) (h1 : 48 ≤ (l[k]).toNat) (h2 : (l[k]).toNat ≤ 57) : decFrom 0 (l.take (k + 1)) = some (10 * n + ((l[k]).toNat - 48)) := by
  rw [List.take_succ_eq_append_getElem hk, decFrom_append, h]
  show decFrom n [l[k]] = _
  rw [decFrom_one n _ h1 h2, Nat.mul_comm]
def RetG (o : Option Int) (w : World) (e : Ending) (w' : World) : Prop := ∃ m : Int, e = .returned (.tuple #[.int .i64 m, .bool o.isSome]) ∧ (∀ n, o = some n → m = n) ∧ -9999999 ≤ m ∧ m ≤ 9999999 ∧ w' = w
theorem RetG.no {o : Option Int} (h : o = none) (w : World) : RetG o w (.returned (.tuple #[.int .i64 0, .bool false])) w := by subst h; exact ⟨0, rfl, (fun n hn => by cases hn), by omega, by omega, rfl⟩
theorem RetG.yes {o : Option Int} {m : Int} (h : o = some m) (h1 : -9999999 ≤ m) (h2 : m ≤ 9999999) (w : World) : RetG o w (.returned (.tuple #[.int .i64 m, .bool true])) w := by subst h; exact ⟨m, rfl, (fun n hn => by cases hn; rfl), h1, h2, rfl⟩

set_option maxRecDepth 100000 in
set_option maxHeartbeats 1000000 in
theorem sDigits0 (l : Txt) (w : World) (hl : l.length ≤ 4611686018427387904) (hm : ¬ (1 < l.length ∧ l.head? = some 45)) :
    Calls Try.prog 36 #[.string (bs l)] w (RetG ((digs0 l).map Int.ofNat) w) := by
  obtain ⟨n, hn⟩ : ∃ n, n = l.length := ⟨_, rfl⟩
  have hsz : (bs l).size = n := by rw [bs_size, hn]
  have HN := Lib.hid hn
  have hin := fun n lo hi w => l1In_any n lo hi w
  have HIN := Lib.hid hin
  clear hin
  -- the first byte
  by_cases h0 : n = 0
  · have hz : (digs0 l).map Int.ofNat = none := by unfold digs0; rw [if_pos (.inl (by omega))]; rfl
    have HZ := Lib.hid hz
    subst h0
    clear hn hz hm hl
    go_enter Try.func36, Try.ntmps36
    go_wp2_with fail
    refine (HIN.out _ _ _ _).mono ?_
    rintro e w' ⟨rfl, rfl⟩
    rw [show inB 0 1 7 = false from rfl]
    go_wp2_with fail
    go_ret2
    exact RetG.no HZ.out _
  · obtain ⟨c, hc⟩ : ∃ c, c = (l[0]'(by omega)).toNat := ⟨_, rfl⟩
    have hb0 : ∀ h, ((bs l)[0]'h).toNat = c := fun h => by rw [bs_get l 0 (by omega)]; exact hc.symm
    have hhd : ∀ x : UInt8, l.head? = some x ↔ x.toNat = c := by
      intro x
      cases l with
      | nil => simp at hn; omega
      | cons a r =>
        simp only [List.head?_cons, Option.some.injEq]
        rw [hc]
        exact ⟨fun h => by rw [← h]; rfl, fun h => (UInt8.toNat_inj.1 h).symm⟩
    have hc45 : ¬ (1 < n ∧ c = 45) := fun h => hm ⟨by omega, (hhd 45).2 h.2.symm⟩
    have HG : Hid (¬ (n < 1 ∨ 7 < n ∨ (1 < n ∧ c = 48)) → digs0 l = decFrom 0 l) := by
      intro h
      unfold digs0
      rw [if_neg]
      rintro (h2 | h2 | h2)
      · omega
      · omega
      · exact h (.inr (.inr ⟨by omega, ((hhd 48).1 h2.2).symm⟩))
    have HB : Hid ((n < 1 ∨ 7 < n ∨ (1 < n ∧ c = 48)) → (digs0 l).map Int.ofNat = none) := by
      intro h
      unfold digs0
      rw [if_pos]
      · rfl
      rcases h with h | h | h
      · exact .inl (by omega)
      · exact .inr (.inl (by omega))
      · exact .inr (.inr ⟨by omega, (hhd 48).2 h.2.symm⟩)
    have hall : ∀ (k : Nat) (_ : k < n), ∃ d : Nat, d < 256 ∧ (∀ h, ((bs l)[k]'h).toNat = d) ∧ ∀ h : k < l.length, (l[k]).toNat = d := fun k hk =>
      ⟨(l[k]'(by omega)).toNat, UInt8.toNat_lt _, fun h => bs_get l k (by omega) h, fun _ => rfl⟩
    have HA := Lib.hid hall
    have hn4 : n ≤ 4611686018427387904 := by omega
    clear hall hhd hm hc hl
    have FIN : Hid (∀ e w', e = Ending.returned (.tuple #[.int .i64 0, .bool false]) → w' = w → (digs0 l).map Int.ofNat = none → RetG ((digs0 l).map Int.ofNat) w e w') := fun e w' h1 h2 h3 => by rw [h1, h2]; exact RetG.no h3 w
    clear hn
    by_cases h1 : n = 1
    · have GD := Lib.hid (HG.out (by omega))
      subst h1
      clear hc45
      go_enter Try.func36, Try.ntmps36
      go_wp2_with fail
      refine (HIN.out _ _ _ _).mono ?_
      rintro e w' ⟨rfl, rfl⟩
      rw [show inB 1 1 7 = true from rfl]
      go_wp2_with fail
      go_loopw [6, 7] (fun v i wr => ∃ (k m : Nat), k ≤ 1 ∧ i = .int .i64 k ∧ v = .int .i64 m ∧ decFrom 0 (l.take k) = some m ∧ m < 10 ^ k ∧ wr = w') (fun _ i _ => 1 - (intOf i).toNat)
      case atStart => exact ⟨0, 0, by omega, rfl, rfl, rfl, by decide, rfl⟩
      case round =>
        obtain ⟨k, m, hk, rfl, rfl, hd, hm, rfl⟩ := hrel
        have hm7 : m < 10000000 := by
          have h3 : (10 : Nat) ^ k ≤ 10 ^ 7 := Nat.pow_le_pow_right (by omega) (by omega)
          have h4 : (10 : Nat) ^ 7 = 10000000 := by decide
          omega
        have HD := Lib.hid hd
        have HM := Lib.hid hm
        clear hd hm
        by_cases hlt : k < 1
        · obtain ⟨d, hd, hb, hb2⟩ := HA.out k hlt
          have HB2 := Lib.hid (hb2 (by rw [← HN.out]; exact hlt))
          clear hb2
          by_cases hlo : d < 48
          · have hlo2 : (d : Int) < 48 := by omega
            go_wp2_with fail
            go_ret2
            exact FIN.out _ _ rfl rfl (by rw [GD.out, decFrom_none (by rw [← HN.out]; exact hlt) HD.out (by rw [HB2.out]; omega)]; rfl)
          · by_cases hhi : 57 < d
            · have hlo2 : ¬ (d : Int) < 48 := by omega
              have hhi2 : 57 < (d : Int) := by omega
              go_wp2_with fail
              go_ret2
              exact FIN.out _ _ rfl rfl (by rw [GD.out, decFrom_none (by rw [← HN.out]; exact hlt) HD.out (by rw [HB2.out]; omega)]; rfl)
            · have hlo2 : ¬ (d : Int) < 48 := by omega
              have hhi2 : ¬ 57 < (d : Int) := by omega
              have e1 : IntKind.u8.wrap ((d : Int) - 48) = (d : Int) - 48 := IntWalk.u8_in _ (by omega)
              go_wp2_with fail
              go_roundw
              case rel => exact ⟨k + 1, 10 * m + (d - 48), by omega, by go_num, by go_num, by rw [decFrom_step (by rw [← HN.out]; exact hlt) HD.out (by rw [HB2.out]; omega) (by rw [HB2.out]; omega), HB2.out], by have := HM.out; rw [Nat.pow_succ]; omega, by trivial⟩
              case measure => simp [intOf]; omega
        · obtain rfl : k = 1 := by omega
          go_wp2_with fail
          go_ret2
          have hall : digs0 l = some m := by rw [GD.out, ← HD.out, HN.out, List.take_length]
          exact RetG.yes (by rw [hall]; rfl) (by omega) (by omega) _
    · have hn1 : 1 < n := by omega
      have hc : ((c : Int) == 45) = false := by rw [beq_eq_false_iff_ne]; omega
      clear hc45
      by_cases h7 : 7 < n
      · have e7 : inB (n : Int) 1 7 = false := inB_hi (by omega)
        have HZ := Lib.hid (HB.out (by omega))
        go_enter Try.func36, Try.ntmps36
        go_wp2_with fail
        refine (HIN.out _ _ _ _).mono ?_
        rintro e w' ⟨rfl, rfl⟩
        rw [e7]
        go_wp2_with fail
        go_ret2
        exact FIN.out _ _ rfl rfl HZ.out
      have e7 : inB (n : Int) 1 7 = true := inB_true (by omega) (by omega)
      by_cases h48 : c = 48
      · have hc2 : ((c : Int) == 48) = true := by rw [beq_iff_eq]; omega
        have HZ := Lib.hid (HB.out (by omega))
        clear h48
        go_enter Try.func36, Try.ntmps36
        go_wp2_with fail
        refine (HIN.out _ _ _ _).mono ?_
        rintro e w' ⟨rfl, rfl⟩
        rw [e7]
        go_wp2_with fail
        go_ret2
        exact FIN.out _ _ rfl rfl HZ.out
      have hc2 : ((c : Int) == 48) = false := by rw [beq_eq_false_iff_ne]; omega
      have GD := Lib.hid (HG.out (by omega))
      go_enter Try.func36, Try.ntmps36
      go_wp2_with fail
      refine (HIN.out _ _ _ _).mono ?_
      rintro e w' ⟨rfl, rfl⟩
      rw [e7]
      go_wp2_with fail
      go_loopw [6, 7] (fun v i wr => ∃ (k m : Nat), k ≤ n ∧ i = .int .i64 k ∧ v = .int .i64 m ∧ decFrom 0 (l.take k) = some m ∧ m < 10 ^ k ∧ wr = w') (fun _ i _ => n - (intOf i).toNat)
      case atStart => exact ⟨0, 0, by omega, rfl, rfl, rfl, by decide, rfl⟩
      case round =>
        obtain ⟨k, m, hk, rfl, rfl, hd, hm, rfl⟩ := hrel
        have hm7 : m < 10000000 := by
          have h3 : (10 : Nat) ^ k ≤ 10 ^ 7 := Nat.pow_le_pow_right (by omega) (by omega)
          have h4 : (10 : Nat) ^ 7 = 10000000 := by decide
          omega
        have HD := Lib.hid hd
        have HM := Lib.hid hm
        clear hd hm
        by_cases hlt : k < n
        · obtain ⟨d, hd, hb, hb2⟩ := HA.out k hlt
          have HB2 := Lib.hid (hb2 (by rw [← HN.out]; exact hlt))
          clear hb2
          by_cases hlo : d < 48
          · have hlo2 : (d : Int) < 48 := by omega
            go_wp2_with fail
            go_ret2
            exact FIN.out _ _ rfl rfl (by rw [GD.out, decFrom_none (by rw [← HN.out]; exact hlt) HD.out (by rw [HB2.out]; omega)]; rfl)
          · by_cases hhi : 57 < d
            · have hlo2 : ¬ (d : Int) < 48 := by omega
              have hhi2 : 57 < (d : Int) := by omega
              go_wp2_with fail
              go_ret2
              exact FIN.out _ _ rfl rfl (by rw [GD.out, decFrom_none (by rw [← HN.out]; exact hlt) HD.out (by rw [HB2.out]; omega)]; rfl)
            · have hlo2 : ¬ (d : Int) < 48 := by omega
              have hhi2 : ¬ 57 < (d : Int) := by omega
              have e1 : IntKind.u8.wrap ((d : Int) - 48) = (d : Int) - 48 := IntWalk.u8_in _ (by omega)
              go_wp2_with fail
              go_roundw
              case rel => exact ⟨k + 1, 10 * m + (d - 48), by omega, by go_num, by go_num, by rw [decFrom_step (by rw [← HN.out]; exact hlt) HD.out (by rw [HB2.out]; omega) (by rw [HB2.out]; omega), HB2.out], by have := HM.out; rw [Nat.pow_succ]; omega, by trivial⟩
              case measure => simp [intOf]; omega
        · obtain rfl : k = n := by omega
          go_wp2_with fail
          go_ret2
          have hall : digs0 l = some m := by rw [GD.out, ← HD.out, HN.out, List.take_length]
          exact RetG.yes (by rw [hall]; rfl) (by omega) (by omega) _
end Go.Proofs.Ytnomlkkhkacajaa
namespace Go.Proofs.Ytnomlkkhkacajaa
open Go.RowKit Go.Lib

/-- The variables' blocks stay. -/
def Kp (w w' : World) : Prop := ∀ i o, i < 0 → w.heap[i]? = some o → w'.heap[i]? = some o
theorem Kp.refl (w : World) : Kp w w := fun _ _ _ h => h
theorem Kp.trans {a b c : World} (h : Kp a b) (k : Kp b c) : Kp a c := fun i o hi ho => k i o hi (h i o hi ho)
theorem Kp.below {w w' : World} (h : Below w.heap.size w w') : Kp w w' := fun i _ _ ho => (h.block i (Array.getElem?_eq_some_iff.1 ho).1).trans ho
theorem Kp.pk {w w' : World} {g : Nat} (h : Pk g w w') (hg : 0 ≤ g) : Kp w w' := fun i _ hi ho => (h.block i (Array.getElem?_eq_some_iff.1 ho).1 (Nat.ne_of_lt (Nat.lt_of_lt_of_le hi hg))).trans ho
theorem Kp.drewN {a b : World} (h : Kp a b) (m : Nat) : Kp a (b.drewN m) := h
theorem var_keep {w w' : World} {name : String} {g : Nat} {cs : Array Value} (hg : Try.prog.globalNamed name = some g) (hG : g < 0) (hv : w.var? Try.prog name = some cs) (hk : Kp w w') : w'.var? Try.prog name = some cs := by
  unfold World.var? at *
  rw [hg] at *
  simp only [Option.bind_some] at *
  cases h : w.heap[g]? with
  | none => rw [h] at hv; cases hv
  | some o => rw [hk g o hG h]; rw [h] at hv; exact hv
theorem below_grow (w : World) (os : Array Obj) : Below w.heap.size w (Sort.grow w os) :=
  ⟨rfl, rfl, rfl, by simp, fun k hk => Sort.heap_grow_old w os hk⟩
def ov (o : Option Int) : Value := .int .i64 (o.getD 0)
theorem bs_toList (l : Txt) : (bs l).toList = l := by rw [toList_data, bs_data]

end Go.Proofs.Ytnomlkkhkacajaa
