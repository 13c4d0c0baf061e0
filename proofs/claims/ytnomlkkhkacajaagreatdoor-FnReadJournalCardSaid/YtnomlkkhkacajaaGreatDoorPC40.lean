/- Texts on the way to a law (H30, H31), each with its own remark. -/
import Derived.Test.YtnomlkkhkacajaaGreatDoorPC32
import Derived.Test.YtnomlkkhkacajaaGreatDoorPC36
import Derived.Test.YtnomlkkhkacajaaGreatDoorPC37
namespace Go.Proofs.YtnomlkkhkacajaaGreatDoor
open Go.RowKit
open Go.Lib hiding intOf

/-- What is read of a beginning is a beginning. -/
theorem rj_take : ∀ (l : Txt) (k : Nat), ∃ m, m ≤ (rj l).1.length ∧ (rj (l.take k)).1 = (rj l).1.take m := by
  intro l
  induction hn : l.length using Nat.strongRecOn generalizing l with
  | _ n ih =>
    intro k
    rcases cut_cases 10 l with h | ⟨a, b, rfl, h⟩
    · have h2 : (10 : UInt8) ∉ l.take k := fun hx => h (List.mem_of_mem_take hx)
      rw [rj_no h2, rj_no h]
      exact ⟨0, Nat.le_refl _, rfl⟩
    · by_cases hk : k ≤ a.length
      · have h2 : (10 : UInt8) ∉ (a ++ 10 :: b).take k := fun hx => by
          rw [List.take_append_of_le_length hk] at hx
          exact h (List.mem_of_mem_take hx)
        rw [rj_no h2]
        exact ⟨0, Nat.zero_le _, rfl⟩
      · obtain ⟨j, rfl⟩ : ∃ j, k = a.length + (j + 1) := ⟨k - a.length - 1, by omega⟩
        rw [List.take_length_add_append, List.take_succ_cons, rj_at b h, rj_at (b.take j) h]
        cases hr : readDd a with
        | none => exact ⟨0, Nat.le_refl _, rfl⟩
        | some d =>
          obtain ⟨m, h1, h2⟩ := ih b.length (by rw [← hn]; simp; omega) b rfl j
          refine ⟨m + 1, ?_, ?_⟩
          · show m + 1 ≤ (d :: (rj b).1).length
            rw [List.length_cons]; omega
          · show d :: (rj (b.take j)).1 = (d :: (rj b).1).take (m + 1)
            rw [h2, List.take_succ_cons]
theorem rj_take_len (l : Txt) (k : Nat) : (rj (l.take k)).2 ≤ k := by
  have h := (rj_back (l.take k)).2.2
  rw [List.length_take] at h
  omega
/-- A deed for each end of a line. -/
theorem jAll_count (ds : List Dd) : (jAll ds).count 10 = ds.length := by
  induction ds with
  | nil => rfl
  | cons a r ih =>
    have e : jAll (a :: r) = dText a ++ 10 :: jAll r := by simp [jAll]
    rw [e, List.count_append, List.count_eq_zero_of_not_mem (dText_no10 a), List.count_cons_self, ih, List.length_cons]
    omega
theorem rj_count (l : Txt) : (rj l).1.length ≤ l.count 10 := by
  rw [← jAll_count, (rj_back l).2.1]
  exact (List.take_sublist _ _).count_le _
theorem jText_count (ds : List Dd) : (jText ds).count 10 ≤ ds.length := by
  rcases jText_cases ds with ⟨_, h⟩ | ⟨_, h⟩
  · rw [h, jAll_count]; exact Nat.le_refl _
  · rw [h]; exact Nat.zero_le _
theorem spoilX_count (j : Nat) : (spoilX j).count 10 ≤ 1 := by
  unfold spoilX
  rcases j with _ | _ | _ | _ | _ | _ | j
  all_goals first | decide | exact Nat.zero_le _
theorem SpoilV.count {t u : Txt} (h : SpoilV t u) : u.count 10 ≤ t.count 10 + 1 := by
  rcases h with ⟨rfl, rfl⟩ | ⟨k, j, _, _, rfl⟩
  · decide
  · rw [List.count_append, List.count_append]
    have h1 := spoilX_count j
    have h2 : (t.take k).count 10 + (t.drop (k + 1)).count 10 ≤ t.count 10 := by
      have e : t.count 10 = (t.take k).count 10 + (t.drop k).count 10 := by rw [← List.count_append, List.take_append_drop]
      have h3 : (t.drop (k + 1)).count 10 ≤ (t.drop k).count 10 := by
        rw [← List.drop_drop]
        exact (List.drop_sublist _ _).count_le _
      omega
    omega
/-- The deeds that are read: their texts are short, and are read again. -/
theorem rj_deeds (l : Txt) : ∀ a ∈ (rj l).1, a.text.length ≤ l.length ∧ readDd (dText a) = some a ∧ (dText a).length ≤ l.length := fun a ha => by
  obtain ⟨h1, h2, h3⟩ := rj_back l
  have hr : readDd (dText a) = some a := readDd_iff.2 ⟨h1 a ha, rfl⟩
  have hl : (dText a).length ≤ (jAll (rj l).1).length := by
    have : (dText a ++ [10]) ∈ (rj l).1.map fun a => dText a ++ [10] := List.mem_map.2 ⟨a, ha, rfl⟩
    have := (List.sublist_flatten_of_mem this).length_le
    rw [List.length_append] at this
    exact Nat.le_trans (by omega) this
  rw [h2, List.length_take] at hl
  have h4 := dText_text hr
  exact ⟨by omega, hr, by omega⟩
theorem rj_text_of (l : Txt) : jText (rj l).1 = l.take (rj l).2 := by
  obtain ⟨h1, h2, _⟩ := rj_back l
  rcases jText_cases (rj l).1 with ⟨_, h⟩ | ⟨⟨a, ha, h⟩, _⟩
  · rw [h, h2]
  · exact absurd h (h1 a ha)
/-- A deed that is said as a line. -/
theorem line_deed {d : Dk} {a : Dd} {n : Nat} (h : dkB d = true) (hr : readDd (dText a) = some a) :
    (lineF d (dText a)).1 = (runS (d, n) a).1 ∧ ((lineF d (dText a)).2 = tOk ∨ (lineF d (dText a)).2 = tNo) := by
  rw [lineF_do h hr]
  cases hd : (doF d a).2 with
  | true => rw [runS_yes (r := (d, n)) hd]; exact ⟨rfl, .inl rfl⟩
  | false =>
    rw [runS_no (r := (d, n)) hd]
    exact ⟨doF_same h hd, .inr rfl⟩
end Go.Proofs.YtnomlkkhkacajaaGreatDoor
namespace Go.Proofs.YtnomlkkhkacajaaGreatDoor
open Go.RowKit
open Go.Lib hiding intOf

/-- A text that is short and has few lines, drawn. -/
def RetTj (w : World) (e : Ending) (w' : World) : Prop := ∃ t : Txt, e = .returned (.string (bs t)) ∧ t.length ≤ 4000 ∧ t.count 10 ≤ 6 ∧ Below w.heap.size w w'
set_option maxHeartbeats 1000000 in
theorem drawReadJournal_any (A : Option Addr) (n c : Nat) (w : World) (hnc : n ≤ c) (hn : n ≤ 1048576) (h : Code8 w A n) :
    Calls Tryz.prog 26 #[.slice A n c] w (RetTj w) := by
  go_enter Tryz.func26, Tryz.ntmps26
  go_wp2_with fail
  refine (open_any A n c w hnc hn h).mono ?_
  rintro e w0 ⟨g, rfl, hg, hr0, hb0⟩
  have HB0 := Lib.hid hb0
  have HG := Lib.hid hg
  clear hb0 hg h
  go_wp2_with fail
  refine (written_any g 0 w0 (by omega) hr0).mono ?_
  rintro e w1 ⟨A1, m1, c1, ds, rfl, ho1, hm1, hok, hr1, hp1⟩
  have HP1 := Lib.hid hp1
  have hml : ds.length = m1 := ho1.len
  subst hml
  have htx : ∀ a ∈ ds, a.text.length ≤ 706 := fun a ha => (hok a ha).1.1
  have hlen : (jText ds).length ≤ 3675 := by
    have := jText_len htx
    have h2 : ds.length * (706 + 29) ≤ 5 * (706 + 29) := Nat.mul_le_mul_right _ hm1
    omega
  have hcnt : (jText ds).count 10 ≤ 5 := Nat.le_trans (jText_count ds) hm1
  have HS := Lib.hid (sJournalText A1 ds.length c1 ds w1 (by omega) ho1.toDs fun a ha => by have := htx a ha; omega)
  clear ho1 hp1 hok hr0 htx
  go_wp2_with fail
  refine HS.out.mono ?_
  rintro e w2 ⟨rfl, hb2⟩
  have hr2 : Rd w2 g 351 := hr1.below hb2
  have HP2 : Hid (Pk g w0 w2) := HP1.out.trans (Pk.of_below hb2)
  generalize jText ds = t at *
  clear hb2 hr1 HS
  go_wp2_with fail
  refine (pick_any g 351 3 w2 (by omega) (by omega) hr2).mono ?_
  rintro e w3 ⟨v, rfl, ⟨v1, v2, _⟩, hr3, hp3⟩
  have HP3 : Hid (Pk g w0 w3) := HP2.out.trans hp3
  clear hp3 hr2
  by_cases hv : v = 0
  · subst hv
    go_wp2_with fail
    refine (spoil_any g 352 t w3 (by omega) (by omega) hr3).mono ?_
    rintro e w4 ⟨u, rfl, hu, _, hp4⟩
    have hul := hu.len
    have huc := hu.count
    go_wp2_with fail
    go_ret
    exact ⟨u, rfl, by omega, by omega, HB0.out.trans ((HP3.out.trans hp4).below HG.out HB0.out.size)⟩
  · have hv0 : (v == 0) = false := by rw [beq_eq_false_iff_ne]; exact hv
    by_cases hv1 : v = 1
    · subst hv1
      have hsz : (bs t).size = t.length := bs_size t
      have hx := bs_extract t
      have i0 : IntKind.i64.wrap (min (t.length : Int) 250 + 1) = min (t.length : Int) 250 + 1 := IntWalk.i64_in _ (by omega)
      go_wp2_with fail
      refine (pick_any g 352 (min (t.length : Int) 250 + 1) w3 (by omega) (by omega) hr3).mono ?_
      rintro e w4 ⟨b, rfl, ⟨b1, b2, _⟩, hr4, hp4⟩
      have b3 := b2 (by omega)
      obtain ⟨k, rfl⟩ := Int.eq_ofNat_of_zero_le b1
      have hk : k ≤ t.length := by omega
      have hki : (k : Int) ≤ (t.length : Int) := by omega
      have hcn : (t.take k).count 10 ≤ 5 := Nat.le_trans ((List.take_sublist _ _).count_le _) hcnt
      have htl : (t.take k).length ≤ 3675 := by rw [List.length_take]; omega
      have HP4 : Hid (Pk g w0 w4) := HP3.out.trans hp4
      clear hp4 hr3 b1 b2 b3
      go_wp2_with fail
      go_ret
      exact ⟨t.take k, rfl, by omega, by omega, HB0.out.trans (HP4.out.below HG.out HB0.out.size)⟩
    · have hv10 : (v == 1) = false := by rw [beq_eq_false_iff_ne]; exact hv1
      go_wp2_with fail
      go_ret
      exact ⟨t, rfl, by omega, by omega, HB0.out.trans (HP3.out.below HG.out HB0.out.size)⟩
end Go.Proofs.YtnomlkkhkacajaaGreatDoor
