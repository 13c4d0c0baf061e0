/- Texts on the way to a law (U7, U8), each with its own remark. -/
import Derived.Test.YtnomlkkhkacajaaPA29
namespace Go.Proofs.Ytnomlkkhkacajaa
open Go.RowKit
open Go.Lib hiding intOf

/-- The thousandths of all numbers, if they have them. -/
noncomputable def thoAll : List C → Option (List Pr)
  | [] => some []
  | z :: r => match tho z with
    | none => none
    | some p => (thoAll r).map (p :: ·)
/-- The text of a signal, if it has one. -/
noncomputable def sigT (xs : List C) : Option Txt := if sigB xs = true then (thoAll xs).map sigText else none
theorem thoAll_len : ∀ {xs : List C} {ps : List Pr}, thoAll xs = some ps → ps.length = xs.length
  | [], ps, h => by cases h; rfl
  | z :: r, ps, h => by
    unfold thoAll at h
    split at h
    · cases h
    · cases hr : thoAll r with
      | none => rw [hr] at h; cases h
      | some qs => rw [hr] at h; cases h; simp [thoAll_len hr]
theorem thoAll_inR : ∀ {xs : List C} {ps : List Pr}, thoAll xs = some ps → ∀ p ∈ ps, InR p
  | [], ps, h => by cases h; simp
  | z :: r, ps, h => by
    unfold thoAll at h
    split at h
    · cases h
    · rename_i p hp
      cases hr : thoAll r with
      | none => rw [hr] at h; cases h
      | some qs =>
        rw [hr] at h; cases h
        intro q hq
        rcases List.mem_cons.1 hq with rfl | hq
        · exact tho_inR hp
        · exact thoAll_inR hr q hq
theorem thoAll_snoc : ∀ {xs : List C} {ps : List Pr} {z : C} {p : Pr}, thoAll xs = some ps → tho z = some p → thoAll (xs ++ [z]) = some (ps ++ [p])
  | [], ps, z, p, h, hz => by cases h; simp [thoAll, hz]
  | y :: r, ps, z, p, h, hz => by
    unfold thoAll at h
    split at h
    · cases h
    · rename_i q hq
      cases hr : thoAll r with
      | none => rw [hr] at h; cases h
      | some qs =>
        rw [hr] at h; cases h
        show thoAll (y :: (r ++ [z])) = _
        unfold thoAll
        rw [hq]
        simp only [thoAll_snoc hr hz, Option.map_some, List.cons_append]
theorem thoAll_none : ∀ {xs : List C} {k : Nat}, k < xs.length → tho (nth xs k) = none → thoAll xs = none
  | [], k, h, _ => by simp at h
  | y :: r, 0, _, hz => by
    have : nth (y :: r) 0 = y := rfl
    rw [this] at hz
    unfold thoAll; rw [hz]
  | y :: r, k + 1, h, hz => by
    have e : nth (y :: r) (k + 1) = nth r k := rfl
    rw [e] at hz
    have := thoAll_none (xs := r) (k := k) (by simp at h; omega) hz
    unfold thoAll
    cases tho y with
    | none => rfl
    | some p => simp [this]
theorem take_nth {xs : List C} {k : Nat} (h : k < xs.length) : xs.take (k + 1) = xs.take k ++ [nth xs k] := by
  rw [List.take_succ_eq_append_getElem h, nth_eq h]
theorem join_snoc (x : Txt) : ∀ (ws : List Txt), ws ≠ [] → join (ws ++ [x]) [59] = join ws [59] ++ 59 :: x
  | [], h => absurd rfl h
  | [y], _ => by
    show join (y :: x :: []) [59] = _
    rw [join_cons2, join_one, join_one]
  | y :: z :: r, _ => by
    have := join_snoc x (z :: r) (by simp)
    show join (y :: z :: (r ++ [x])) [59] = _
    rw [join_cons2, join_cons2]
    rw [show z :: (r ++ [x]) = (z :: r) ++ [x] from rfl, this, List.append_assoc]
    rfl
theorem join_len : ∀ (ps : List Pr), (∀ p ∈ ps, InR p) → (join (ps.map pairText) [59]).length ≤ 44 * ps.length
  | [], _ => by simp [join_nil]
  | [p], h => by
    rw [List.map_cons, List.map_nil, join_one]
    have := pairText_len (h p List.mem_cons_self)
    simp; omega
  | p :: q :: r, h => by
    have h1 := join_len (q :: r) fun x hx => h x (List.mem_cons_of_mem _ hx)
    have h2 := pairText_len (h p List.mem_cons_self)
    rw [List.map_cons, List.map_cons, join_cons2, ← List.map_cons]
    simp at h1 ⊢; omega
theorem sigText_len {ps : List Pr} (h : ∀ p ∈ ps, InR p) : (sigText ps).length ≤ 1 + 44 * ps.length := by
  unfold sigText
  split
  · simp
  · have := join_len ps h; omega
theorem zText_some {z : C} {u : Txt} (h : zText z = some u) : ∃ p, tho z = some p ∧ u = pairText p := by
  unfold zText at h
  cases hz : tho z with
  | none => rw [hz] at h; cases h
  | some p => rw [hz] at h; cases h; exact ⟨p, rfl, rfl⟩
theorem zText_none {z : C} (h : (zText z).isSome = false) : tho z = none := by
  unfold zText at h
  cases hz : tho z with
  | none => rfl
  | some p => rw [hz] at h; cases h
theorem sigT_yes {xs : List C} {ps : List Pr} (h : sigB xs = true) (h2 : thoAll xs = some ps) : sigT xs = some (sigText ps) := by unfold sigT; rw [if_pos h, h2]; rfl
theorem sigT_no {xs : List C} (h : sigB xs = false ∨ thoAll xs = none) : sigT xs = none := by
  unfold sigT
  split
  · rename_i h1
    rcases h with h | h
    · rw [h] at h1; cases h1
    · rw [h]; rfl
  · rfl
theorem sigT_some {xs : List C} {t : Txt} (h : sigT xs = some t) : sigB xs = true ∧ ∃ ps, thoAll xs = some ps ∧ t = sigText ps ∧ (∀ p ∈ ps, InR p) ∧ ps.length ≤ 16 := by
  unfold sigT at h
  split at h
  · rename_i h1
    cases h2 : thoAll xs with
    | none => rw [h2] at h; cases h
    | some ps =>
      rw [h2] at h
      cases h
      refine ⟨h1, ps, rfl, rfl, thoAll_inR h2, ?_⟩
      rw [thoAll_len h2]
      unfold sigB at h1
      simp at h1
      exact h1.1
  · cases h
theorem sigB_len {xs : List C} (h : sigB xs = true) : xs.length ≤ 16 := by unfold sigB at h; simp at h; exact h.1
def RetX (w : World) (o : Option Txt) (e : Ending) (w' : World) : Prop := e = .returned (.tuple #[.string (bs (o.getD [])), .bool o.isSome]) ∧ Below w.heap.size w w'
theorem RetX.no {w w' : World} {o : Option Txt} (h : o = none) (hb : Below w.heap.size w w') : RetX w o (.returned (.tuple #[.string ⟨#[]⟩, .bool false])) w' := by subst h; exact ⟨rfl, hb⟩
theorem RetX.yes {w w' : World} {o : Option Txt} {s : ByteArray} {t : Txt} (h : o = some t) (hs : s = bs t) (hb : Below w.heap.size w w') : RetX w o (.returned (.tuple #[.string s, .bool true])) w' := by subst h; subst hs; exact ⟨rfl, hb⟩

set_option maxRecDepth 100000 in
set_option maxHeartbeats 1000000 in
theorem sSignalText (A : Option Addr) (n c : Nat) (xs : List C) (w : World) (hn : n ≤ 9223372036854775807) (hx : Cs w A n xs) :
    Calls Try.prog 24 #[.slice A n c] w (RetX w (sigT xs)) := by
  have HL := Lib.hid hx.len
  go_enter Try.func24, Try.ntmps24
  go_wp2_with fail
  refine (sSignalOk A n c xs w hn hx).mono ?_
  rintro e w0 ⟨rfl, m, rfl⟩
  cases hs : sigB xs with
  | false =>
    have HS := Lib.hid hs
    clear hs
    go_wp2_with fail
    go_ret2
    exact RetX.no (sigT_no (.inl HS.out)) (below_drewN (Below.refl _ _) m)
  | true =>
    have HS := Lib.hid hs
    have hn16 : n ≤ 16 := by rw [← HL.out]; exact sigB_len hs
    have HX : Hid (Cs (w.drewN m) A n xs) := Cs.drewN hx m
    have HB0 : Hid (Below w.heap.size w (w.drewN m)) := below_drewN (Below.refl _ _) m
    clear hs hx
    generalize w.drewN m = w0 at *
    go_wp2_with fail
    go_loopw [4, 5, 6, 7] (fun v i _ _ wr => ∃ (k : Nat) (ps : List Pr), k ≤ n ∧ i = .int .i64 k ∧ v = .string (bs (join (ps.map pairText) [59])) ∧ thoAll (xs.take k) = some ps ∧ Below w0.heap.size w0 wr) (fun _ i _ _ _ => n - (intOf i).toNat)
    case atStart => exact ⟨0, [], by omega, rfl, rfl, rfl, Below.refl _ _⟩
    case round =>
      obtain ⟨k, ps, hk, rfl, rfl, hps, hb⟩ := hrel
      have HP := Lib.hid hps
      have HB := Lib.hid hb
      have hlen : ps.length = k := by rw [thoAll_len hps, List.length_take, HL.out]; omega
      have HK := Lib.hid hlen
      have HJ := Lib.hid (join_len ps (thoAll_inR hps))
      clear hps hb hlen
      by_cases hlt : k < n
      · have hx2 : Cs wr A n xs := Sl.below HX.out HB.out
        obtain ⟨b, o, rfl, hbl, hc⟩ := hx2.at_ hlt
        have hck := hc k hlt
        unfold cv at hck
        have HZ := Lib.hid (fun w => sText (nth xs k) w)
        unfold cv at HZ
        clear hc
        go_wp2_with fail
        refine (HZ.out _).mono ?_
        rintro e w1 ⟨t, rfl, ht, htl, hb1⟩
        have HB1 : Hid (Below w0.heap.size w0 w1) := HB.out.trans (hb1.mono HB.out.size)
        have HT := Lib.hid ht
        clear hb1 ht
        cases hz : (zText (nth xs k)).isSome with
        | false =>
          have HN : Hid (sigT xs = none) := sigT_no (.inr (thoAll_none (k := k) (by rw [HL.out]; exact hlt) (zText_none hz)))
          clear hz
          go_wp2_with fail
          go_ret2
          exact RetX.no HN.out (HB0.out.trans (HB1.out.mono HB0.out.size))
        | true =>
          obtain ⟨u, hu⟩ := Option.isSome_iff_exists.1 hz
          have htu := HT.out u hu
          obtain ⟨p, hp, hup⟩ := zText_some hu
          have HNX : Hid (thoAll (xs.take (k + 1)) = some (ps ++ [p])) := by
            show _ = _
            rw [take_nth (by rw [HL.out]; exact hlt)]
            exact thoAll_snoc HP.out hp
          have HTP : Hid (t = pairText p) := by show _ = _; rw [htu, hup]
          have z1 : (bs (join (ps.map pairText) [59])).size ≤ 44 * k := by rw [bs_size, ← HK.out]; exact HJ.out
          have z2 : (bs t).size ≤ 43 := by rw [bs_size]; exact htl
          have z3 : ({ data := #[59] } : ByteArray).size = 1 := rfl
          clear hz hu htu hup hp
          by_cases hk0 : k = 0
          · have HE : Hid (bs (join (ps.map pairText) [59]) ++ bs t = bs (join ((ps ++ [p]).map pairText) [59])) := by
              show _ = _
              have : ps = [] := List.length_eq_zero_iff.1 (by rw [HK.out]; exact hk0)
              rw [bs_append, this, HTP.out]
              simp [join_nil, join_one]
            have h1 : ¬ (0 : Int) < k := by omega
            clear hk0
            go_wp2_with fail
            go_roundw
            case rel => exact ⟨k + 1, ps ++ [p], by omega, by go_num, by rw [← HE.out], HNX.out, HB1.out⟩
            case measure => simp [intOf]; omega
          · have HE : Hid ((bs (join (ps.map pairText) [59]) ++ { data := #[59] }) ++ bs t = bs (join ((ps ++ [p]).map pairText) [59])) := by
              show _ = _
              have h0 : ps.map pairText ≠ [] := by
                intro h; simp at h; rw [h] at HK; exact hk0 HK.out.symm
              rw [show ({ data := #[59] } : ByteArray) = bs [59] from rfl, bs_append, bs_append, List.map_append, List.map_cons, List.map_nil, join_snoc _ _ h0, HTP.out]
              simp
            have h1 : (0 : Int) < k := by omega
            have z4 : (bs (join (ps.map pairText) [59]) ++ { data := #[59] }).size ≤ 44 * k + 1 := by
              rw [show ({ data := #[59] } : ByteArray) = bs [59] from rfl, bs_append, bs_size, List.length_append]
              rw [bs_size] at z1
              simp; omega
            clear hk0
            go_wp2_with fail
            go_roundw
            case rel => exact ⟨k + 1, ps ++ [p], by omega, by go_num, by rw [← HE.out], HNX.out, HB1.out⟩
            case measure => simp [intOf]; omega
      · obtain rfl : k = n := by omega
        have HTA : Hid (thoAll xs = some ps) := by
          show _ = _
          rw [← HP.out, List.take_of_length_le (by rw [HL.out]; omega)]
        have HY := Lib.hid (sigT_yes HS.out HTA.out)
        by_cases hk0 : k = 0
        · subst hk0
          go_wp2_with fail
          go_ret2
          refine RetX.yes HY.out ?_ (HB0.out.trans (HB.out.mono HB0.out.size))
          have : ps = [] := List.length_eq_zero_iff.1 HK.out
          rw [this]; rfl
        · have h1 : ((k : Int) == 0) = false := by rw [beq_eq_false_iff_ne]; omega
          have HQ : Hid (ps ≠ []) := by rintro rfl; exact hk0 HK.out.symm
          clear hk0
          go_wp2_with fail
          go_ret2
          refine RetX.yes HY.out ?_ (HB0.out.trans (HB.out.mono HB0.out.size))
          unfold sigText
          rw [if_neg HQ.out]
end Go.Proofs.Ytnomlkkhkacajaa
namespace Go.Proofs.Ytnomlkkhkacajaa
open Go.RowKit
open Go.Lib hiding intOf

theorem bs_nil_eq : (⟨#[]⟩ : ByteArray) = bs [] := rfl
theorem set_mid (ws : List Value) (x u : Value) (m : Nat) : (ws ++ List.replicate (m + 1) x).set ws.length u = (ws ++ [u]) ++ List.replicate m x := by
  rw [List.set_append_right _ _ (Nat.le_refl _), Nat.sub_self, List.replicate_succ, List.set_cons_zero, List.append_assoc]
  rfl
end Go.Proofs.Ytnomlkkhkacajaa
