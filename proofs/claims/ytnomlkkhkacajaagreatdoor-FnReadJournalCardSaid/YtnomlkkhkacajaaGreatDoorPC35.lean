/- Texts on the way to a law (J9, H20, J13), each with its own remark. -/
import Derived.Test.YtnomlkkhkacajaaGreatDoorPC27
import Derived.Test.YtnomlkkhkacajaaGreatDoorPC16
import Derived.Test.YtnomlkkhkacajaaGreatDoorPC34
import Derived.Test.YtnomlkkhkacajaaGreatDoorPC14
import Derived.Test.YtnomlkkhkacajaaGreatDoorPC22
import Derived.Test.YtnomlkkhkacajaaGreatDoorPC21
import Derived.Maps.AppendAt
namespace Go.Proofs.YtnomlkkhkacajaaGreatDoor
open Go.RowKit
open Go.Lib hiding intOf

theorem Code8.below {w w' : World} {A : Option Addr} {n : Nat} (h : Code8 w A n) (hb : Below w.heap.size w w') : Code8 w' A n := by
  rcases h with h | ⟨b, o, h1, h2, h3⟩
  · exact .inl h
  · refine .inr ⟨b, o, h1, Nat.lt_of_lt_of_le h2 hb.size, fun k hk => ?_⟩
    obtain ⟨u, h4, h5⟩ := h3 k hk
    exact ⟨u, h4, (hb.cell (p := ⟨b, o + k, none⟩) h2).trans h5⟩
/-- What becomes of a text that is spoilt. -/
def spoilX (j : Nat) : Txt := ([[], [48], [32], [10], [45], [98, 97, 99, 107]] : List Txt).getD j []
theorem spoilX_len (j : Nat) : (spoilX j).length ≤ 4 := by
  unfold spoilX
  rcases j with _ | _ | _ | _ | _ | _ | j
  all_goals first | decide | simp
def SpoilV (t u : Txt) : Prop := (t = [] ∧ u = [10]) ∨ ∃ k j, k < t.length ∧ j < 6 ∧ u = t.take k ++ spoilX j ++ t.drop (k + 1)
theorem SpoilV.len {t u : Txt} (h : SpoilV t u) : u.length ≤ t.length + 4 := by
  rcases h with ⟨rfl, rfl⟩ | ⟨k, j, hk, _, rfl⟩
  · simp
  · have := spoilX_len j
    rw [List.length_append, List.length_append, List.length_take, List.length_drop]; omega
def RetSp (t : Txt) (w : World) (g p : Nat) (e : Ending) (w' : World) : Prop := ∃ u : Txt, e = .returned (.string (bs u)) ∧ SpoilV t u ∧ Rd w' g p ∧ Pk g w w'
theorem spoil_lit (j : Nat) (h : j < 6) : (#[.string { data := #[] }, .string { data := #[48] }, .string { data := #[32] }, .string { data := #[10] }, .string { data := #[45] }, .string { data := #[98, 97, 99, 107] }] : Array Value)[j]? = some (.string (bs (spoilX j))) := by
  have : j = 0 ∨ j = 1 ∨ j = 2 ∨ j = 3 ∨ j = 4 ∨ j = 5 := by omega
  rcases this with rfl | rfl | rfl | rfl | rfl | rfl <;> rfl

set_option maxHeartbeats 2000000 in
set_option maxRecDepth 100000 in
theorem spoil_any (g p : Nat) (t : Txt) (w5 : World) (hp : p ≤ 600000) (ht : t.length ≤ 100000) (hr : Rd w5 g p) :
    Calls Tryz.prog 65 #[.pointer (some ⟨g, 0, none⟩), .string (bs t)] w5 (RetSp t w5 g (p + 2)) := by
  have hsz : (bs t).size = t.length := bs_size t
  have hx := bs_extract t
  by_cases ht0 : t.length = 0
  · have ht1 : t = [] := List.length_eq_zero_iff.1 ht0
    subst ht1
    go_enter Tryz.func65, Tryz.ntmps65
    go_wp2_with fail
    go_ret
    exact ⟨[10], rfl, .inl ⟨rfl, rfl⟩, hr.mono (by omega), Pk.refl _ _⟩
  · have hl0 : 0 < t.length := by omega
    have e0 : ((t.length : Int) == 0) = false := by rw [beq_eq_false_iff_ne]; omega
    go_enter Tryz.func65, Tryz.ntmps65
    go_wp2_with fail
    refine (pick_any g p (min (t.length : Int) 250) w5 (by omega) (by omega) hr).mono ?_
    rintro e w6 ⟨b, rfl, ⟨b1, b2, _⟩, hr6, hp6⟩
    have b3 := b2 (by omega)
    obtain ⟨k, rfl⟩ := Int.eq_ofNat_of_zero_le b1
    have hk : k < t.length := by omega
    have HP6 : Hid (Pk g w5 w6) := hp6
    have hg6 := hr6.lt
    have HR6 : Hid (Rd w6 g (p + 1)) := hr6
    clear hp6 b1 b2 b3 hr hr6
    have K : Hid (∀ w', Rd w' g (p + 1) → Calls Tryz.prog 62 #[.pointer (some ⟨g, 0, none⟩), .int .i64 6] w' (RetP w' g (p + 1) 6)) := fun w' h => pick_any g (p + 1) 6 w' (by omega) (by omega) h
    have i1 : (k : Int) < (t.length : Int) := by omega
    have i2 : IntKind.i64.wrap ((k : Int) + 1) = (k : Int) + 1 := IntWalk.i64_in _ (by omega)
    have i3 : (k : Int) + 1 ≤ (t.length : Int) := by omega
    have i4 : (0 : Int) ≤ (k : Int) + 1 := by omega
    have i5 : ((k : Int) + 1).toNat = k + 1 := by omega
    have i6 : k ≤ t.length := by omega
    have zA : (bs (List.take k t)).size ≤ 100000 := by rw [bs_size, List.length_take]; omega
    have zB : (bs (List.take (t.length - (k + 1)) (List.drop (k + 1) t))).size ≤ 100000 := by rw [bs_size, List.length_take, List.length_drop]; omega
    have ZU : Hid (∀ u : Txt, u.length ≤ 4 → ¬ 9223372036854775807 < (bs (List.take k t)).size + (bs u).size ∧ ¬ 9223372036854775807 < (bs (List.take k t)).size + (bs u).size + (bs (List.take (t.length - (k + 1)) (List.drop (k + 1) t))).size) := fun u hu => by
      rw [bs_size, bs_size, bs_size, List.length_take, List.length_take, List.length_drop]; omega
    have HTL : Hid (t.length ≤ 100000) := ht
    have HK := Lib.hid hk
    have hdt : List.take (t.length - (k + 1)) (List.drop (k + 1) t) = List.drop (k + 1) t := List.take_of_length_le (by rw [List.length_drop]; omega)
    have HDT := Lib.hid hdt
    clear hdt
    go_wp2_with fail
    go_region_law ((go_simp; go_at_call 62; (with_reducible refine Calls.mono (K.out _ (by first | exact Rd.drew (HR6.out.below (below_alloc _ _)) | exact Rd.drew HR6.out)) ?_); rintro e w7 ⟨d, rfl, ⟨d1, d2, _⟩, hr7, hp7⟩; obtain ⟨d, rfl⟩ := Int.eq_ofNat_of_zero_le d1; (have d3 : d < 6 := (by have := d2 (by omega); omega)); (have hcu := spoil_lit d d3); obtain ⟨zU, zAU⟩ := ZU.out (spoilX d) (spoilX_len d); have HD3 := Lib.hid d3; have HR7 := Lib.hid hr7; (have d4 : (d : Int) < 6 := (by omega)); first | (have cc := lit_cell _ _ (Pk.of_drewN (m := 1) hp7) hg6 hcu; have HP7 : Hid (Pk g w6 w7) := (Pk.of_below (below_alloc _ _)).trans (Pk.of_drewN (m := 1) hp7); clear hp7 hcu) | (have cc : (w7.alloc (.cells (#[.string { data := #[] }, .string { data := #[48] }, .string { data := #[32] }, .string { data := #[10] }, .string { data := #[45] }, .string { data := #[98, 97, 99, 107] }] : Array Value) 9)).cell? ⟨w7.heap.size, d, none⟩ = some (.string (bs (spoilX d))) := (World.cell?_alloc_at _ _ _ _ rfl).trans hcu; clear hcu; have HP7 : Hid (Pk g w6 w7) := Pk.of_drewN (m := 1) hp7; clear hp7)))
    all_goals
      go_wp2_with fail
      go_ret
      have HFE : bs (List.take k t) ++ bs (spoilX d) ++ bs (List.take (t.length - (k + 1)) (List.drop (k + 1) t)) = bs (List.take k t ++ spoilX d ++ List.drop (k + 1) t) := by rw [bs_append, bs_append, HDT.out]
      rw [HFE]
      first
        | exact ⟨_, rfl, .inr ⟨k, d, HK.out, HD3.out, rfl⟩, HR7.out, HP6.out.trans HP7.out⟩
        | exact ⟨_, rfl, .inr ⟨k, d, HK.out, HD3.out, rfl⟩, HR7.out.below (below_alloc _ _), HP6.out.trans (HP7.out.trans (Pk.of_below (below_alloc _ _)))⟩
theorem dText_len (a : Dd) (h : a.text.length ≤ 706) : (dText a).length ≤ 712 := by
  by_cases h0 : dText a = []
  · rw [h0]; simp
  · rcases dText_cases h0 with ⟨_, _, _, e⟩ | ⟨h1, _, h3, h4, e⟩ | ⟨h1, _, _, e⟩
    · rw [e, List.length_append, List.length_cons]
      have : (wordOf 0).length = 5 := rfl
      omega
    · rw [e, List.length_append, List.length_cons]
      have := wordOf_len a.kind
      have := itoa_small a.num (by omega) (by omega)
      omega
    · rw [e]
      have := wordOf_len a.kind
      omega
end Go.Proofs.YtnomlkkhkacajaaGreatDoor
namespace Go.Proofs.YtnomlkkhkacajaaGreatDoor
open Go.RowKit
open Go.Lib hiding intOf

theorem rd_alloc {w : World} {g p : Nat} {o : Obj} (h : Rd w g p) : Rd (w.alloc o) g p := h.below (below_alloc _ _)
theorem rd_drew {w : World} {g p : Nat} (h : Rd w g p) : Rd w.drew g p := h.drewN 1
theorem pk_alloc {w W : World} {g : Nat} {o : Obj} (h : Pk g w W) : Pk g w (W.alloc o) := h.trans (Pk.of_below (below_alloc _ _))
theorem pk_drew {w W : World} {g : Nat} (h : Pk g w W) : Pk g w W.drew := ⟨h.os, h.tape, h.output, h.size, h.block⟩
theorem pk_blw {w W w' : World} {g : Nat} (h : Pk g w W) (hb : Below W.heap.size W w') : Pk g w w' := h.trans (Pk.of_below hb)
theorem below_cells {W w1 : World} (h : Below W.heap.size W w1) : (∀ b o, b < W.heap.size → w1.cell? ⟨b, o, none⟩ = W.cell? ⟨b, o, none⟩) := fun b o hb => h.cell (p := ⟨b, o, none⟩) hb
/-- A line that is drawn is short. -/
def RetLn (w : World) (g p : Nat) (e : Ending) (w' : World) : Prop := ∃ l : Txt, e = .returned (.string (bs l)) ∧ l.length ≤ 1048576 ∧ Rd w' g p ∧ Pk g w w'
theorem wordA_get (j : Nat) (h : j < 2) : ∃ t : Txt, t.length ≤ 7 ∧ (∀ h, ([.string ⟨#[110, 117, 109, 98, 101, 114, 32]⟩, .string ⟨#[116, 111, 110, 101, 115, 32]⟩] : List Value)[j]'h = .string (bs t)) := by
  have : j = 0 ∨ j = 1 := by omega
  rcases this with rfl | rfl
  · exact ⟨[110, 117, 109, 98, 101, 114, 32], by decide, fun _ => rfl⟩
  · exact ⟨[116, 111, 110, 101, 115, 32], by decide, fun _ => rfl⟩
theorem numB_get (j : Nat) (h : j < 6) : ∃ v : Int, 0 ≤ v ∧ v ≤ 500 ∧ (∀ h, ([.int .i64 0, .int .i64 1, .int .i64 2, .int .i64 3, .int .i64 100, .int .i64 500] : List Value)[j]'h = .int .i64 v) := by
  have : j = 0 ∨ j = 1 ∨ j = 2 ∨ j = 3 ∨ j = 4 ∨ j = 5 := by omega
  rcases this with rfl | rfl | rfl | rfl | rfl | rfl
  · exact ⟨0, by omega, by omega, fun _ => rfl⟩
  · exact ⟨1, by omega, by omega, fun _ => rfl⟩
  · exact ⟨2, by omega, by omega, fun _ => rfl⟩
  · exact ⟨3, by omega, by omega, fun _ => rfl⟩
  · exact ⟨100, by omega, by omega, fun _ => rfl⟩
  · exact ⟨500, by omega, by omega, fun _ => rfl⟩
theorem word4_get (j : Nat) (h : j < 4) : ∃ t : Txt, t.length ≤ 8 ∧ (#[.string ⟨#[112, 111, 105, 110, 116, 115]⟩, .string ⟨#[115, 105, 103, 110, 97, 108]⟩, .string ⟨#[103, 114, 101, 97, 116, 101, 115, 116]⟩, .string ⟨#[112, 97, 115, 116]⟩] : Array Value)[j]? = some (.string (bs t)) := by
  have : j = 0 ∨ j = 1 ∨ j = 2 ∨ j = 3 := by omega
  rcases this with rfl | rfl | rfl | rfl
  · exact ⟨[112, 111, 105, 110, 116, 115], by decide, rfl⟩
  · exact ⟨[115, 105, 103, 110, 97, 108], by decide, rfl⟩
  · exact ⟨[103, 114, 101, 97, 116, 101, 115, 116], by decide, rfl⟩
  · exact ⟨[112, 97, 115, 116], by decide, rfl⟩
theorem word10_get (j : Nat) (h : j < 10) : ∃ t : Txt, t.length ≤ 9 ∧ (#[.string ⟨#[]⟩, .string ⟨#[119, 114, 105, 116, 101]⟩, .string ⟨#[119, 114, 105, 116, 101, 32, 120]⟩, .string ⟨#[110, 117, 109, 98, 101, 114]⟩, .string ⟨#[110, 117, 109, 98, 101, 114, 32, 48, 49]⟩, .string ⟨#[116, 111, 110, 101, 115, 32, 45, 49]⟩, .string ⟨#[110, 117, 109, 98, 101, 114, 32, 57, 57]⟩, .string ⟨#[32, 112, 97, 115, 116]⟩, .string ⟨#[109, 111, 118, 101]⟩, .string ⟨#[117, 110, 100, 111, 32, 49]⟩] : Array Value)[j]? = some (.string (bs t)) := by
  have : j = 0 ∨ j = 1 ∨ j = 2 ∨ j = 3 ∨ j = 4 ∨ j = 5 ∨ j = 6 ∨ j = 7 ∨ j = 8 ∨ j = 9 := by omega
  rcases this with rfl | rfl | rfl | rfl | rfl | rfl | rfl | rfl | rfl | rfl
  · exact ⟨[], by decide, rfl⟩
  · exact ⟨[119, 114, 105, 116, 101], by decide, rfl⟩
  · exact ⟨[119, 114, 105, 116, 101, 32, 120], by decide, rfl⟩
  · exact ⟨[110, 117, 109, 98, 101, 114], by decide, rfl⟩
  · exact ⟨[110, 117, 109, 98, 101, 114, 32, 48, 49], by decide, rfl⟩
  · exact ⟨[116, 111, 110, 101, 115, 32, 45, 49], by decide, rfl⟩
  · exact ⟨[110, 117, 109, 98, 101, 114, 32, 57, 57], by decide, rfl⟩
  · exact ⟨[32, 112, 97, 115, 116], by decide, rfl⟩
  · exact ⟨[109, 111, 118, 101], by decide, rfl⟩
  · exact ⟨[117, 110, 100, 111, 32, 49], by decide, rfl⟩

set_option maxHeartbeats 4000000 in
set_option maxRecDepth 100000 in
theorem line_any (g p : Nat) (w : World) (hp : p ≤ 500000) (hr : Rd w g p) :
    Calls Tryz.prog 48 #[.pointer (some ⟨g, 0, none⟩)] w (RetLn w g (p + 80)) := by
  have hlt := hr.lt
  go_enter Tryz.func48, Tryz.ntmps48
  go_wp2_with fail
  refine (pick_any g p 6 w (by omega) (by omega) hr).mono ?_
  rintro e w1 ⟨v, rfl, ⟨v1, v2, _⟩, hr1, hp1⟩
  have hv6 := v2 (by omega)
  have HR1 := Lib.hid hr1
  have HQ1 := Lib.hid hp1
  have hs1 := hp1.size
  clear hr1 hp1 hr v2
  have hv : v = 0 ∨ v = 1 ∨ v = 2 ∨ v = 3 ∨ ((v == 0) = false ∧ (v == 1) = false ∧ (v == 2) = false ∧ (v == 3) = false) := by
    by_cases h : v = 0 ∨ v = 1 ∨ v = 2 ∨ v = 3
    · omega
    · simp only [not_or] at h
      exact .inr (.inr (.inr (.inr ⟨by simpa using h.1, by simpa using h.2.1, by simpa using h.2.2.1, by simpa using h.2.2.2⟩)))
  rcases hv with rfl | rfl | rfl | rfl | ⟨q0, q1, q2, q3⟩
  · go_wp2_with fail
    refine (pick_any g (p + 1) 4 _ (by omega) (by omega) (rd_alloc HR1.out)).mono ?_
    rintro e w2 ⟨j, rfl, ⟨j1, j2, _⟩, hr2, hp2⟩
    obtain ⟨j, rfl⟩ := Int.eq_ofNat_of_zero_le j1
    have j3 : j < 4 := by have := j2 (by omega); omega
    obtain ⟨t, ht, hget⟩ := word4_get j j3
    have hc := lit_cell _ 9 hp2 (by omega : g < w1.heap.size) hget
    have HR2 := Lib.hid hr2
    have HQ2 := Lib.hid ((pk_alloc HQ1.out).trans hp2)
    have j4 : (j : Int) < 4 := by omega
    have j5 : (0 : Int) ≤ (j : Int) := by omega
    clear hr2 hp2 hget j2
    go_wp2_with fail
    go_ret
    exact ⟨t, rfl, by omega, HR2.out.mono (by omega), HQ2.out⟩
  · go_wp2_with fail
    refine (pick_any g (p + 1) 4 _ (by omega) (by omega) (rd_alloc HR1.out)).mono ?_
    rintro e w2 ⟨j, rfl, ⟨j1, j2, _⟩, hr2, hp2⟩
    obtain ⟨j, rfl⟩ := Int.eq_ofNat_of_zero_le j1
    have j3 : j < 4 := by have := j2 (by omega); omega
    obtain ⟨t, ht, hget⟩ := word4_get j j3
    have hc := lit_cell _ 9 hp2 (by omega : g < w1.heap.size) hget
    have HR2 := Lib.hid hr2
    have HQ2 := Lib.hid ((pk_alloc HQ1.out).trans hp2)
    have j4 : (j : Int) < 4 := by omega
    have j5 : (0 : Int) ≤ (j : Int) := by omega
    clear hr2 hp2 hget j2
    go_wp2_with fail
    go_ret
    exact ⟨t, rfl, by omega, HR2.out.mono (by omega), HQ2.out⟩
  · go_wp2_with fail
    refine (pick_any g (p + 1) 10 _ (by omega) (by omega) (rd_alloc HR1.out)).mono ?_
    rintro e w2 ⟨j, rfl, ⟨j1, j2, _⟩, hr2, hp2⟩
    obtain ⟨j, rfl⟩ := Int.eq_ofNat_of_zero_le j1
    have j3 : j < 10 := by have := j2 (by omega); omega
    obtain ⟨t, ht, hget⟩ := word10_get j j3
    have hc := lit_cell _ 9 hp2 (by omega : g < w1.heap.size) hget
    have HR2 := Lib.hid hr2
    have HQ2 := Lib.hid ((pk_alloc HQ1.out).trans hp2)
    have j4 : (j : Int) < 10 := by omega
    have j5 : (0 : Int) ≤ (j : Int) := by omega
    clear hr2 hp2 hget j2
    go_wp2_with fail
    go_ret
    exact ⟨t, rfl, by omega, HR2.out.mono (by omega), HQ2.out⟩
  · have K2 : Hid (∀ w', Rd w' g (p + 1) → Calls Tryz.prog 62 #[.pointer (some ⟨g, 0, none⟩), .int .i64 2] w' (RetP w' g (p + 1) 2)) := fun w' h => pick_any g (p + 1) 2 w' (by omega) (by omega) h
    have K6 : Hid (∀ w', Rd w' g (p + 2) → Calls Tryz.prog 62 #[.pointer (some ⟨g, 0, none⟩), .int .i64 6] w' (RetP w' g (p + 2) 6)) := fun w' h => pick_any g (p + 2) 6 w' (by omega) (by omega) h
    have hg1 : ¬ w1.heap.size = g := by omega
    have hg2 : ¬ w1.heap.size + 1 = g := by omega
    clear v1 hv6
    go_upto_region 8 with fail
    go_cut [2] (fun s2 wx => ∃ l : Txt, s2 = .string (bs l) ∧ l.length ≤ 1048576 ∧ Rd wx g (p + 3) ∧ Pk g w wx)
    case first =>
      go_region_law ((go_simp; first
        | (go_at_call 62; first
            | ((with_reducible refine Calls.mono (K2.out _ (by repeat (first | exact HR1.out | with_reducible apply rd_drew | with_reducible apply rd_alloc))) ?_); rintro e w2 ⟨j, rfl, ⟨j1, j2, _⟩, hr2, hp2⟩; obtain ⟨j, rfl⟩ := Int.eq_ofNat_of_zero_le j1; (have j3 : j < 2 := (by have := j2 (by omega); omega)); (have j4 : (j : Int) < 2 := (by omega)); (have j5 : (0 : Int) ≤ (j : Int) := (by omega)); obtain ⟨t, ht, hlitA⟩ := wordA_get j j3; obtain ⟨hc2, hf2⟩ := pk_cells hp2; (have hz2 := hp2.size); (try simp at hz2); (have hy0 : w1.heap.size ≤ w2.heap.size := (by omega)); (try (have hy1 : w1.heap.size < w2.heap.size := (by omega))); (try (have hy2 : w1.heap.size + 1 < w2.heap.size := (by omega))); (have hn1 : ¬ w2.heap.size = g := (by omega)); (have hn2 : ¬ w2.heap.size + 1 = g := (by omega)); have HR2 := Lib.hid hr2; (have HQ2 : Hid (Pk g w w2) := (by (refine Pk.trans ?_ hp2); repeat (first | exact HQ1.out | with_reducible apply pk_drew | with_reducible apply pk_alloc))); clear hr2 hp2 j2 j1)
            | ((with_reducible refine Calls.mono (K6.out _ (by repeat (first | exact HR2.out | with_reducible apply rd_alloc))) ?_); rintro e w3 ⟨i, rfl, ⟨i1, i2, _⟩, hr3, hp3⟩; obtain ⟨i, rfl⟩ := Int.eq_ofNat_of_zero_le i1; (have i3 : i < 6 := (by have := i2 (by omega); omega)); (have i4 : (i : Int) < 6 := (by omega)); (have i5 : (0 : Int) ≤ (i : Int) := (by omega)); obtain ⟨x, hx0, hx1, hlitB⟩ := numB_get i i3; obtain ⟨hc3, hf3⟩ := pk_cells hp3; (have hz3 := hp3.size); (try simp at hz3); (have hu0 : w1.heap.size ≤ w3.heap.size := (by omega)); (try (have hu1 : w1.heap.size < w3.heap.size := (by omega))); (try (have hu2 : w1.heap.size + 1 < w3.heap.size := (by omega))); (try (have hu3 : w2.heap.size < w3.heap.size := (by omega))); (try (have hu4 : w2.heap.size + 1 < w3.heap.size := (by omega))); have HR3 := Lib.hid hr3; (have HQ3 : Hid (Pk g w w3) := (by (refine Pk.trans ?_ hp3); repeat (first | exact HQ2.out | with_reducible apply pk_alloc))); clear hr3 hp3 i2 i1))
        | (go_at_call 52; (with_reducible refine Calls.mono (sNumber x (by omega) (by omega) _) ?_); rintro e w4 ⟨rfl, hb4⟩; have hc4 := below_cells hb4; (have hz4 := hb4.size); (try simp at hz4); (try (have ho1 : w1.heap.size < w4.heap.size := (by omega))); (try (have ho2 : w1.heap.size + 1 < w4.heap.size := (by omega))); (try (have ho3 : w2.heap.size < w4.heap.size := (by omega))); (try (have ho4 : w2.heap.size + 1 < w4.heap.size := (by omega))); (have hz : ¬ 9223372036854775807 < (bs t).size + (bs (itoa x)).size := (by rw [bs_size, bs_size]; have := itoa_small x (by omega) (by omega); omega)); (have HR4 : Hid (Rd w4 g (p + 3)) := (by (refine Rd.below ?_ hb4); repeat (first | exact HR3.out | with_reducible apply rd_alloc))); (have HQ4 : Hid (Pk g w w4) := (by (refine pk_blw ?_ hb4); repeat (first | exact HQ3.out | with_reducible apply pk_alloc))); clear hb4)))
      all_goals
        go_wp2_with fail
        have hlen : (t ++ itoa x).length ≤ 1048576 := by rw [List.length_append]; have := itoa_small x (by omega) (by omega); omega
        go_meet
        exact ⟨t ++ itoa x, by rw [bs_append], hlen, by repeat (first | exact HR4.out | with_reducible apply rd_alloc), by repeat (first | exact HQ4.out | with_reducible apply pk_alloc)⟩
    case rest =>
      obtain ⟨l, rfl, hl, hr3, hp3⟩ := hcut
      have HR3 := Lib.hid hr3
      have HQ3 := Lib.hid hp3
      clear hr3 hp3
      go_wp2_with fail
      go_ret
      exact ⟨l, rfl, hl, HR3.out.mono (by omega), HQ3.out⟩
  · go_wp2_with fail
    refine (deed_any g (p + 1) w1 (by omega) HR1.out).mono ?_
    rintro e w2 ⟨a, rfl, ha, _, _, hr2, hp2⟩
    have HR2 := Lib.hid hr2
    have HQ2 := Lib.hid (HQ1.out.trans hp2)
    have HDT := Lib.hid (sDeedText a (by omega) w2)
    have hlen : (dText a).length ≤ 1048576 := by have := dText_len a ha; omega
    clear hr2 hp2
    unfold dv at HDT ⊢
    go_wp2_with fail
    refine HDT.out.mono ?_
    rintro e w3 ⟨rfl, hb3⟩
    have HR3 := Lib.hid (HR2.out.below hb3)
    have HQ3 := Lib.hid (pk_blw HQ2.out hb3)
    clear hb3
    go_wp2_with fail
    go_ret
    exact ⟨dText a, rfl, hlen, HR3.out.mono (by omega), HQ3.out⟩
end Go.Proofs.YtnomlkkhkacajaaGreatDoor
namespace Go.Proofs.YtnomlkkhkacajaaGreatDoor
open Go.RowKit
open Go.Lib hiding intOf

theorem Od.pk {w w' : World} {B n g : Nat} {v : Value} {ds : List Dd} (h : Od w B v n ds) (hp : Pk g w w') (hg : g < B) : Od w' B v n ds := by
  refine ⟨h.1, ?_⟩
  rcases h.2 with hn | ⟨g', cap, cur, hv, hg', hh, r⟩
  · exact .inl hn
  · exact .inr ⟨g', cap, cur, hv, hg', by rw [hp.block g' (Array.getElem?_eq_some_iff.1 hh).1 (by omega)]; exact hh, r⟩
theorem Od.keep {w w' : World} {B n c : Nat} {A : Option Addr} {ds : List Dd} (h : Od w B (.slice A n c) n ds) (hk : ∀ g, A = some ⟨g, 0, none⟩ → g < w.heap.size → w'.heap[g]? = w.heap[g]?) : Od w' B (.slice A n c) n ds := by
  refine ⟨h.1, ?_⟩
  rcases h.2 with h0 | ⟨g, cap, cur, hv, hg, hh, r⟩
  · exact .inl h0
  · injection hv with h1 h2 h3
    subst h1; subst h3
    exact .inr ⟨g, c, cur, rfl, hg, by rw [hk g rfl (Array.getElem?_eq_some_iff.1 hh).1]; exact hh, r⟩
theorem Od.bound {w : World} {B n c : Nat} {A : Option Addr} {ds : List Dd} (h : Od w B (.slice A n c) n ds) : ∀ g, A = some ⟨g, 0, none⟩ → B ≤ g ∧ g < w.heap.size := fun g hg => by
  subst hg
  exact World.ownsRow.lt h g rfl
section
variable {P : Program} {w : World} {ops : Array Oper} {rest : List Oper} {o : Oper} {a : Act} {Q : Exit → Act → World → Prop}
/-- append(out, a deed): where the new row lies. -/
theorem wl_appDl (B : Nat) (d : Dd) (hB : B ≤ w.heap.size) (hgd : o.guard = none) (s x : Operand) (t : TypeId) (ho : o.op = .call { callee := .builtin .append, args := #[s, x], argTypes := #[t, t] })
    (he : ElemD P t) (v : Value) (n : Nat) (ds : List Dd) (hs : a.eval s = v) (hown : Od w B v n ds)
    (hx : a.eval x = .slice (some ⟨w.heap.size, 0, none⟩) 1 1) (h63 : n + 1 ≤ maxLen) (hbytes : (n + 1) * 32 ≤ 140737488355328)
    (h : ∀ v' w', Od w' B v' (n + 1) (ds ++ [d]) → Below B w w' → (∀ b, b < w.heap.size → v.ownBlock ≠ some b → w'.heap[b]? = w.heap[b]?) → (∀ b, b < w.heap.size → v.ownBlock ≠ some b → v'.ownBlock ≠ some b) → wpList P ops Q rest (a.put o.dst v') w') : wpList P ops Q (o :: rest) a (w.alloc (.cells #[.int .i64 d.kind, .int .i64 d.num, .string (bs d.text)] 28)) := by
  obtain ⟨i, z, h2, h3, h4, h5, h6⟩ := he.info
  refine wpList_append_own_at (w.alloc (.cells #[.int .i64 d.kind, .int .i64 d.num, .string (bs d.text)] 28)) hgd s x t ho B 28 i z 3 32 he.und h2 h3 h4 h5 h6 (by decide) v n _ hs (World.ownsRow.alloc hown _) ⟨w.heap.size, 0, none⟩ 1 1 (dcs d) hx rfl ?_ (dcs_one d) h63 hbytes ?_ ?_
  · intro j u' hj
    rw [add_none0, World.cell?_alloc_at _ _ _ _ rfl]
    simpa [dcs] using hj
  · simp
    omega
  · intro v' w' h1 h2 _ hl
    refine h v' w' ?_ (((Below.refl B w).alloc hB _).grown h2 (by simp; omega) ?_) (fun b hb hne => ?_) fun b hb hne => ?_
    · unfold Od
      rw [List.flatMap_append, List.flatMap_cons, List.flatMap_nil, List.append_nil]
      exact h1
    · intro k hk
      exact (World.ownsRow.lt hown k hk).1
    · rw [h2.block b (by simp; omega) (fun e => hne e.symm)]
      exact (World.grownBy_alloc w _ none).block b hb (by simp)
    · rcases hl with hl | hl
      · rw [hl]; exact hne
      · rw [hl]
        intro e
        injection e with e
        simp at e
        omega
end
/-- Deeds that are drawn. -/
def OkD (a : Dd) : Prop := a.text.length ≤ 706 ∧ -1000 ≤ a.num ∧ a.num ≤ 1000
def RetDs (w : World) (g p : Nat) (Q : Dd → Prop) (e : Ending) (w' : World) : Prop := ∃ A m c ds, e = .returned (.slice A m c) ∧ Od w' w.heap.size (.slice A m c) m ds ∧ m ≤ 5 ∧ (∀ a ∈ ds, OkD a ∧ Q a) ∧ Rd w' g p ∧ Pk g w w'

set_option maxHeartbeats 1000000 in
theorem deeds_any (g p : Nat) (w : World) (hp : p ≤ 500000) (hr : Rd w g p) :
    Calls Tryz.prog 46 #[.pointer (some ⟨g, 0, none⟩)] w (RetDs w g (p + 351) fun _ => True) := by
  have hlt := hr.lt
  have he := Od.lit (w := w) [] (by simp) #[] rfl
  have hb0 := below_alloc w (.cells #[] 28)
  go_enter Tryz.func46, Tryz.ntmps46
  go_wp2_with fail
  refine (pick_any g p 6 _ (by omega) (by omega) (hr.below hb0)).mono ?_
  rintro e w1 ⟨q, rfl, ⟨q1, q2, _⟩, hr1, hp1⟩
  obtain ⟨q, rfl⟩ := Int.eq_ofNat_of_zero_le q1
  have q3 : q < 6 := by have := q2 (by omega); omega
  have HO1 : Hid (Od w1 w.heap.size (.slice (some ⟨w.heap.size, 0, none⟩) 0 0) 0 []) := Od.pk he hp1 hlt
  have HP1 : Hid (Pk g w w1) := (Pk.of_below hb0).trans hp1
  have HR1 := Lib.hid hr1
  clear he hb0 hr hp1 hr1 q1 q2
  go_wp2_with fail
  go_loopw [3, 4] (fun v i wr => ∃ (k : Nat) (ds : List Dd), k ≤ q ∧ i = .int .i64 k ∧ ds.length + k = q ∧ Od wr w.heap.size v ds.length ds ∧ (∀ a ∈ ds, OkD a ∧ True) ∧ Rd wr g (p + 1 + 70 * ds.length) ∧ Pk g w wr) (fun _ i _ => (intOf i).toNat)
  case atStart => exact ⟨q, [], by omega, rfl, by simp, HO1.out, by simp, HR1.out.mono (by simp), HP1.out⟩
  case round =>
    obtain ⟨k, ds, hk, rfl, hlen, ho, hok, hrd, hpk⟩ := hrel
    have HO := Lib.hid ho
    have HOK := Lib.hid hok
    have HP := Lib.hid hpk
    have HR := Lib.hid hrd
    have hll : ds.length ≤ 5 := by omega
    have HL := Lib.hid hlen
    clear ho hok hpk hlen hrd
    by_cases hlt2 : 0 < k
    · have hki : (0 : Int) < (k : Int) := by omega
      have e4 : IntKind.i64.wrap ((k : Int) - 1) = (k : Int) - 1 := IntWalk.i64_in _ (by omega)
      go_wp2_with fail
      refine (deed_any g (p + 1 + 70 * ds.length) wr (by omega) HR.out).mono ?_
      rintro e w2 ⟨a, rfl, ha1, ha2, ha3, hr2, hp2⟩
      have HP2 : Hid (Pk g w w2) := HP.out.trans hp2
      have HO2 := Lib.hid (Od.pk HO.out hp2 hlt)
      have HR2 := Lib.hid hr2
      have hsz := HP2.out.size
      have HNX : Hid (∀ x ∈ ds ++ [a], OkD x ∧ True) := fun x hx => by
        rcases List.mem_append.1 hx with hx | hx
        · exact HOK.out x hx
        · rw [List.mem_singleton.1 hx]; exact ⟨⟨ha1, ha2, ha3⟩, trivial⟩
      unfold dv
      clear hp2 hr2
      go_wp2_with (at_builtin; refine wl_appDd w.heap.size a hsz rfl (.tmp 12) (.tmp 15) 37 rfl Tryz.eDd _ ds.length ds rfl HO2.out rfl (by simp only [maxLen]; omega) (by omega) ?_; intro v' w4 ho4 hb4 _; have HO4 := Lib.hid ho4; have HB4 := Lib.hid hb4; clear ho4 hb4)
      go_roundw
      case rel => exact ⟨k - 1, ds ++ [a], by omega, by go_num, by rw [List.length_append]; have := HL.out; simp; omega, by rw [List.length_append]; exact HO4.out, HNX.out, (HR2.out.belowB HB4.out hlt).mono (by rw [List.length_append]; simp; omega), HP2.out.belowB HB4.out (Nat.le_refl _)⟩
      case measure => simp [intOf]; omega
    · obtain rfl : k = 0 := by omega
      obtain ⟨A1, c1, rfl⟩ := HO.out.shape
      go_wp2_with fail
      go_ret
      exact ⟨A1, _, c1, ds, rfl, HO.out, hll, HOK.out, HR.out.mono (by omega), HP.out⟩
set_option maxHeartbeats 1000000 in
set_option maxRecDepth 100000 in
theorem written_any (g p : Nat) (w : World) (hp : p ≤ 400000) (hr : Rd w g p) :
    Calls Tryz.prog 64 #[.pointer (some ⟨g, 0, none⟩)] w (RetDs w g (p + 351) fun a => dText a ≠ []) := by
  have hlt := hr.lt
  have he := Od.lit (w := w) [] (by simp) #[] rfl
  have hb0 := below_alloc w (.cells #[] 28)
  have hs1 : (w.alloc (.cells #[] 28)).heap.size = w.heap.size + 1 := by simp
  have HS1 := Lib.hid hs1
  clear hs1
  go_enter Tryz.func64, Tryz.ntmps64
  go_wp2_with fail
  refine (deeds_any g p _ (by omega) (hr.below hb0)).mono ?_
  rintro e w1 ⟨A, m, c, dl, rfl, hol, hm5, hokl, hr1, hp1⟩
  have HO1 : Hid (Od w1 w.heap.size (.slice (some ⟨w.heap.size, 0, none⟩) 0 0) 0 []) := Od.pk he hp1 hlt
  have HOL1 : Hid (Od w1 (w.heap.size + 1) (.slice A m c) m dl) := by show Od _ _ _ _ _; rw [← HS1.out]; exact hol
  have HP1 : Hid (Pk g w w1) := (Pk.of_below hb0).trans hp1
  have HR1 := Lib.hid hr1
  have HOK := Lib.hid hokl
  have HNE1 : Hid (∀ g', A = some ⟨g', 0, none⟩ → (Value.slice (some ⟨w.heap.size, 0, none⟩) 0 0).ownBlock ≠ some g') := fun g' hg' e => by
    have := (HOL1.out.bound g' hg').1
    injection e with e
    have : w.heap.size = g' := e
    omega
  clear he hb0 hr hp1 hr1 hol hokl
  go_wp2_with fail
  go_loopw [3, 5] (fun v i wr => ∃ (k : Nat) (ds : List Dd), k ≤ m ∧ i = .int .i64 k ∧ ds.length ≤ k ∧ Od wr w.heap.size v ds.length ds ∧ Od wr (w.heap.size + 1) (.slice A m c) m dl ∧ (∀ g', A = some ⟨g', 0, none⟩ → v.ownBlock ≠ some g') ∧ (∀ a ∈ ds, OkD a ∧ dText a ≠ []) ∧ Rd wr g (p + 351) ∧ Pk g w wr) (fun _ i _ => m - (intOf i).toNat)
  case atStart => exact ⟨0, [], by omega, rfl, by simp, HO1.out, HOL1.out, HNE1.out, by simp, HR1.out, HP1.out⟩
  case round =>
    obtain ⟨k, ds, hk, rfl, hlen, ho, hol, hne, hok, hrd, hpk⟩ := hrel
    have HO := Lib.hid ho
    have HL := Lib.hid hol
    have HNE := Lib.hid hne
    have HOK2 := Lib.hid hok
    have HP := Lib.hid hpk
    have HR := Lib.hid hrd
    clear ho hol hne hok hpk hrd
    by_cases hlt2 : k < m
    · obtain ⟨g', a, hA, ha, c0, c1, c2, hgl⟩ := HL.out.cells hlt2
      have HA := Lib.hid ha
      have HAS := Lib.hid hA
      have hoa := HOK.out a (List.mem_of_getElem? ha)
      have HOA := Lib.hid hoa
      have hat : a.text.length ≤ 706 := hoa.1.1
      have HDT := Lib.hid (fun w => sDeedText a (by omega) w)
      have hto := bs_toList (dText a)
      unfold dv at HDT
      clear ha hoa
      subst hA
      go_wp2_with fail
      refine (HDT.out _).mono ?_
      rintro e w2 ⟨rfl, hb2⟩
      have d0 := (hb2.cell (p := ⟨g', k * 3, none⟩) hgl).trans c0
      have d1 := (hb2.cell (p := ⟨g', k * 3 + 1, none⟩) hgl).trans c1
      have d2 := (hb2.cell (p := ⟨g', k * 3 + 2, none⟩) hgl).trans c2
      have HO2 := Lib.hid (Od.below HO.out hb2)
      have HL2 := Lib.hid (Od.below HL.out hb2)
      have HP2 : Hid (Pk g w w2) := HP.out.trans (Pk.of_below hb2)
      have HR2 := Lib.hid (HR.out.below hb2)
      have hsz : w.heap.size ≤ w2.heap.size := HP2.out.size
      have hg2 : g' < w2.heap.size := Nat.lt_of_lt_of_le hgl hb2.size
      clear hb2 c0 c1 c2
      by_cases hd : dText a = []
      · have hd2 : (dText a).isEmpty = true := by rw [hd]; rfl
        clear hd
        go_wp2_with fail
        go_roundw
        case rel => exact ⟨k + 1, ds, by omega, by go_num, by omega, HO2.out, HL2.out, HNE.out, HOK2.out, HR2.out, HP2.out⟩
        case measure => simp [intOf]; omega
      · have hd2 : (dText a).isEmpty = false := by simpa using hd
        have HNX : Hid (∀ x ∈ ds ++ [a], OkD x ∧ dText x ≠ []) := fun x hx => by
          rcases List.mem_append.1 hx with hx | hx
          · exact HOK2.out x hx
          · rw [List.mem_singleton.1 hx]; exact ⟨HOA.out.1, hd⟩
        clear hd
        go_wp2_with (at_builtin; refine wl_appDl w.heap.size a hsz rfl (.tmp 21) (.tmp 26) 37 rfl Tryz.eDd _ ds.length ds rfl HO2.out rfl (by simp only [maxLen]; omega) (by omega) ?_; intro v' w4 ho4 hb4 hf4 hn4; have HO4 := Lib.hid ho4; have HB4 := Lib.hid hb4; have HF4 := Lib.hid hf4; have HN4 := Lib.hid hn4; clear ho4 hb4 hf4 hn4)
        have HL4 : Hid (Od w4 (w.heap.size + 1) (.slice (some ⟨g', 0, none⟩) m c) m dl) := HL2.out.keep fun g2 hg2' hlt' => HF4.out g2 hlt' (HNE.out g2 hg2')
        have HNE4 : Hid (∀ g2, (some ⟨g', 0, none⟩ : Option Addr) = some ⟨g2, 0, none⟩ → v'.ownBlock ≠ some g2) := fun g2 h2 => HN4.out g2 (by injection h2 with h2; injection h2 with h2; omega) (HNE.out g2 h2)
        go_roundw
        case rel => exact ⟨k + 1, ds ++ [a], by omega, by go_num, by rw [List.length_append]; simp; omega, by rw [List.length_append]; exact HO4.out, HL4.out, HNE4.out, HNX.out, HR2.out.belowB HB4.out hlt, HP2.out.belowB HB4.out (Nat.le_refl _)⟩
        case measure => simp [intOf]; omega
    · obtain rfl : k = m := by omega
      obtain ⟨A1, c1, rfl⟩ := HO.out.shape
      go_wp2_with fail
      go_ret
      exact ⟨A1, _, c1, ds, rfl, HO.out, by omega, HOK2.out, HR.out, HP.out⟩
set_option maxHeartbeats 1000000 in
theorem sameDeeds_true (A A' : Option Addr) (n c c' : Nat) (ds : List Dd) (w : World) (hn : n ≤ 1073741824) (hx : Ds w A n ds) (hy : Ds w A' n ds) :
    Calls Tryz.prog 29 #[.slice A n c, .slice A' n c'] w fun e w' => e = .returned (.bool true) ∧ Dr w w' := by
  have HX := Lib.hid hx
  have HY := Lib.hid hy
  clear hx hy
  go_enter Tryz.func29, Tryz.ntmps29
  go_wp2_with fail
  go_loopw [5] (fun i wr => ∃ k : Nat, k ≤ n ∧ i = .int .i64 k ∧ ∃ m, wr = w.drewN m) (fun i _ => n - (intOf i).toNat)
  case atStart => exact ⟨0, by omega, rfl, 0, rfl⟩
  case round =>
    obtain ⟨k, hk, rfl, m, rfl⟩ := hrel
    by_cases hlt : k < n
    · obtain ⟨b, o, a, rfl, hb, ha, x0, x1, x2⟩ := HX.out.at_ hlt
      obtain ⟨b', o', a', rfl, hb', ha', y0, y1, y2⟩ := HY.out.at_ hlt
      obtain rfl : a' = a := by rw [ha] at ha'; injection ha' with h; exact h.symm
      have h0 : (w.drewN m).cell? ⟨b, o + k * 3, none⟩ = some (.int .i64 a'.kind) := x0
      have h1 : (w.drewN m).cell? ⟨b, o + k * 3 + 1, none⟩ = some (.int .i64 a'.num) := x1
      have h2 : (w.drewN m).cell? ⟨b, o + k * 3 + 2, none⟩ = some (.string (bs a'.text)) := x2
      have g0 : (w.drewN m).cell? ⟨b', o' + k * 3, none⟩ = some (.int .i64 a'.kind) := y0
      have g1 : (w.drewN m).cell? ⟨b', o' + k * 3 + 1, none⟩ = some (.int .i64 a'.num) := y1
      have g2 : (w.drewN m).cell? ⟨b', o' + k * 3 + 2, none⟩ = some (.string (bs a'.text)) := y2
      have hto := bs_toList a'.text
      have hk0 : (0 : Int) ≤ (k : Int) := by omega
      have hkn : (k : Int) < (n : Int) := by omega
      clear x0 x1 x2 y0 y1 y2 ha ha' hb hb'
      obtain ⟨wr, hwr⟩ : ∃ wr, wr = w.drewN m := ⟨_, rfl⟩
      rw [← hwr] at h0 h1 h2 g0 g1 g2 ⊢
      have HW := Lib.hid hwr
      clear hwr
      go_wp2_with fail
      go_quiet (fail)
      go_wp2_with fail
      go_roundw
      case rel => exact ⟨k + 1, by omega, by go_num, m + nq, by rw [HW.out, World.drewN_drewN]⟩
      case measure => simp [intOf]; omega
    · go_wp2_with fail
      go_ret
      exact ⟨rfl, m, rfl⟩
end Go.Proofs.YtnomlkkhkacajaaGreatDoor

namespace Go.Proofs.YtnomlkkhkacajaaGreatDoor
open Go.RowKit
open Go.Lib hiding intOf

theorem jAll_len {M : Nat} : ∀ {ds : List Dd}, (∀ a ∈ ds, a.text.length ≤ M) → (jAll ds).length ≤ ds.length * (M + 29)
  | [], _ => by simp [jAll]
  | a :: r, h => by
    have h1 := dText_len2 a M (h a List.mem_cons_self)
    have h2 := jAll_len (ds := r) fun b hb => h b (List.mem_cons_of_mem _ hb)
    have e : jAll (a :: r) = dText a ++ 10 :: jAll r := by simp [jAll]
    rw [e, List.length_append, List.length_cons, List.length_cons, Nat.add_mul]
    omega
theorem jText_len {M : Nat} {ds : List Dd} (h : ∀ a ∈ ds, a.text.length ≤ M) : (jText ds).length ≤ ds.length * (M + 29) := by
  rcases jText_cases ds with ⟨_, e⟩ | ⟨_, e⟩
  · rw [e]; exact jAll_len h
  · rw [e]; simp
end Go.Proofs.YtnomlkkhkacajaaGreatDoor
