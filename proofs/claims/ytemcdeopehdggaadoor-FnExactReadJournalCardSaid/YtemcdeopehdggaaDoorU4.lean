/- A number with a sign, the words of a text, plain texts, the texts of a complex number. -/
import Derived.Test.YtemcdeopehdggaaDoorU3
namespace Go.Proofs.YtemcdeopehdggaaDoor
open Go.RowKit Go.Lib

theorem bs_extract (l : Txt) (a b : Nat) : (bs l).extract a b = bs ((l.drop a).take (b - a)) := by rw [extract_eq, bs_data]; rfl
theorem digs_neg {r : Txt} : digs (45 :: r) = if r = [] then digs0 [45] |>.map Int.ofNat else (digs0 r).bind fun u => if 0 < u then some (-(u : Int)) else none := by
  unfold digs
  cases r with
  | nil => rfl
  | cons a r => rfl
theorem digs_pos {l : Txt} (h : ¬ (1 < l.length ∧ l.head? = some 45)) : digs l = (digs0 l).map Int.ofNat := by
  unfold digs
  rw [if_neg h]
theorem digs0_minus {r : Txt} (h : r.head? = some 45) : digs0 r = none := by
  cases h2 : digs0 r with
  | none => rfl
  | some u =>
    have h3 := (digs0_iff.1 h2).1
    cases r with
    | nil => cases h
    | cons a r =>
      simp only [List.head?_cons, Option.some.injEq] at h
      have h4 := decDigits_digit u a (by rw [← h3]; exact List.mem_cons_self)
      subst h
      exact absurd h4.1 (by decide)
theorem digs_ne (l : Txt) : ∀ n, digs l = some n → -9999999 ≤ n ∧ n ≤ 9999999 := fun _ h => (digs_iff.1 h).2

set_option maxRecDepth 100000 in
set_option maxHeartbeats 1000000 in
/-- A number of digits, with a sign or not. -/
theorem sDigits (l : Txt) (hl : l.length ≤ 4611686018427387904) (w : World) : Calls Tryd.prog 48 #[.string (bs l)] w (RetG (digs l) w) := by
  induction hN : l.length using Nat.strongRecOn generalizing l with
  | _ N ih =>
    by_cases hm : 1 < l.length ∧ l.head? = some 45
    · cases l with
      | nil => simp at hm
      | cons c r =>
        obtain ⟨h1, h2⟩ := hm
        simp only [List.head?_cons, Option.some.injEq] at h2
        subst h2
        have hr : r ≠ [] := by rintro rfl; simp at h1
        have K : Hid (Calls Tryd.prog 48 #[.string (bs r)] w (RetG (digs r) w)) := ih r.length (by rw [← hN]; simp) r (by simp at hl; omega) rfl
        have E : Hid (digs (45 :: r) = (digs0 r).bind fun u => if 0 < u then some (-(u : Int)) else none) := by
          show _ = _
          rw [digs_neg, if_neg hr]
        obtain ⟨n, hn⟩ : ∃ n, n = (45 :: r).length := ⟨_, rfl⟩
        have hsz : (bs (45 :: r)).size = n := by rw [bs_size, hn]
        have hn1 : 1 < n := by omega
        have hb0 : ∀ h, ((bs (45 :: r))[0]'h).toNat = 45 := fun h => by rw [bs_get (45 :: r) 0 (by simp)]; rfl
        have hx : (bs (45 :: r)).extract 1 n = bs r := by
          rw [bs_extract, hn]; simp
        -- the number behind the sign
        have D : Hid (∀ m : Int, (∀ k, digs r = some k → m = k) → RetG (digs (45 :: r)) w (.returned (.tuple #[.int .i64 (-m), .bool ((digs r).isSome && decide (0 < m))])) w ∨ ¬ (-9999999 ≤ m ∧ m ≤ 9999999)) := by
          intro m hm
          by_cases hbd : -9999999 ≤ m ∧ m ≤ 9999999
          · left
            rw [E.out]
            by_cases hmin : 1 < r.length ∧ r.head? = some 45
            · have h0 := digs0_minus hmin.2
              rw [h0]
              have hb : ((digs r).isSome && decide (0 < m)) = false := by
                cases hd : digs r with
                | none => rfl
                | some k =>
                  have hmk := hm k hd
                  have : k < 0 := by
                    unfold digs at hd
                    rw [if_pos hmin] at hd
                    cases h5 : digs0 r.tail with
                    | none => rw [h5] at hd; cases hd
                    | some u =>
                      rw [h5] at hd
                      simp only [Option.bind_some] at hd
                      split at hd
                      · cases hd; omega
                      · cases hd
                  simp; omega
              rw [hb]
              exact ⟨-m, rfl, (fun n hn => by cases hn), by omega, by omega, rfl⟩
            · have hp := digs_pos hmin
              cases h0 : digs0 r with
              | none =>
                rw [h0] at hp
                rw [hp]
                exact ⟨-m, rfl, (fun n hn => by cases hn), by omega, by omega, rfl⟩
              | some u =>
                rw [h0] at hp
                have hmk : m = u := hm _ hp
                rw [hp]
                simp only [Option.bind_some]
                by_cases hu : 0 < u
                · rw [if_pos hu]
                  refine ⟨-m, ?_, ?_, by omega, by omega, rfl⟩
                  · have : decide (0 < m) = true := by simp; omega
                    rw [this]; rfl
                  · intro n hn; cases hn; rw [hmk]
                · rw [if_neg hu]
                  refine ⟨-m, ?_, (fun n hn => by cases hn), by omega, by omega, rfl⟩
                  have : decide (0 < m) = false := by simp; omega
                  rw [this, Bool.and_false]; rfl
          · exact .inr hbd
        clear ih h1 E hr hN hl hn
        go_enter Tryd.func48, Tryd.ntmps48
        go_wp2_with fail
        refine K.out.mono ?_
        rintro e w' ⟨m, rfl, hm, h3, h4, rfl⟩
        have e1 : IntKind.i64.wrap (-m) = -m := IntWalk.i64_in _ (by omega)
        have DM := Lib.hid ((D.out m hm).resolve_right (fun hh => hh ⟨h3, h4⟩))
        clear D hm
        generalize (digs r).isSome = b at *
        by_cases h0 : 0 < m
        · cases b with
          | true =>
            go_wp2_with fail
            go_ret2
            have := DM.out
            rw [show decide (0 < m) = true by simpa using h0] at this
            exact this
          | false =>
            go_wp2_with fail
            go_ret2
            exact DM.out
        · cases b with
          | true =>
            go_wp2_with fail
            go_ret2
            exact DM.out
          | false =>
            go_wp2_with fail
            go_ret2
            exact DM.out
    · rw [digs_pos hm]
      exact sDigits0 l w hl hm
end Go.Proofs.YtemcdeopehdggaaDoor
