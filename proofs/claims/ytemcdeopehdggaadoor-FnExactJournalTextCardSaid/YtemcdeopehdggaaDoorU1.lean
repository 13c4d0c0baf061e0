/- Texts as values; a number's text by the reference. -/
import Derived.Test.YtemcdeopehdggaaDoorS3
import Derived.Test.YtemcdeopehdggaaDoorD1
import Derived.Deep.RegionLaw
import Derived.Laws.BytesArg
namespace Go.Proofs.YtemcdeopehdggaaDoor
open Go.RowKit Go.Lib

/-- A text as a string. -/
def bs (l : Txt) : ByteArray := ⟨l.toArray⟩
def sv (l : Txt) : Value := .string (bs l)
theorem bs_data (l : Txt) : (bs l).data.toList = l := by simp [bs]
theorem bs_of (s : ByteArray) : bs s.data.toList = s := mk_data s
theorem bs_size (l : Txt) : (bs l).size = l.length := by rw [size_eq, bs_data]
theorem bs_inj {a b : Txt} : bs a = bs b ↔ a = b := ⟨fun h => by rw [← bs_data a, h, bs_data], fun h => by rw [h]⟩
theorem bs_append (a b : Txt) : bs a ++ bs b = bs (a ++ b) := by
  rw [← bs_of (bs a ++ bs b)]
  congr 1

/-- The string of one byte. -/
def oneB (c : Int) : ByteArray := bs [UInt8.ofNat c.toNat]
theorem conv_one (w : World) (c : Int) : (convert 28 9 (.slice (some ⟨w.heap.size, 0, none⟩) 1 1)).run Tryd.prog (w.alloc (.cells #[.int .u8 c] 5)) = .ok (.string (oneB c)) (w.alloc (.cells #[.int .u8 c] 5)) := by
  rw [run_convert_bytes_arg (w.alloc (.cells #[.int .u8 c] 5)) 28 5 Tryd.underlying28 Tryd.underlying5 w.heap.size 0 1 1 [c] rfl (fun i hi => by
    obtain rfl : i = 0 := by omega
    rw [World.cell?_alloc_at _ _ _ _ rfl]; rfl) 9 Tryd.underlying9]
  rfl
theorem conv_one_drew (w : World) (c : Int) : (convert 28 9 (.slice (some ⟨w.heap.size, 0, none⟩) 1 1)).run Tryd.prog (w.alloc (.cells #[.int .u8 c] 5)).drew = .ok (.string (oneB c)) (w.alloc (.cells #[.int .u8 c] 5)).drew := by
  rw [run_convert_bytes_arg (w.alloc (.cells #[.int .u8 c] 5)).drew 28 5 Tryd.underlying28 Tryd.underlying5 w.heap.size 0 1 1 [c] rfl (fun i hi => by
    obtain rfl : i = 0 := by omega
    rw [World.cell?_drew, World.cell?_alloc_at _ _ _ _ rfl]; rfl) 9 Tryd.underlying9]
  rfl
theorem conv_cell (w : World) (g : Nat) (c : Int) (h : w.cell? ⟨g, 0, none⟩ = some (.int .u8 c)) : (convert 28 9 (.slice (some ⟨g, 0, none⟩) 1 1)).run Tryd.prog w = .ok (.string (oneB c)) w := by
  rw [run_convert_bytes_arg w 28 5 Tryd.underlying28 Tryd.underlying5 g 0 1 1 [c] rfl (fun i hi => by
    obtain rfl : i = 0 := by omega
    exact h) 9 Tryd.underlying9]
  rfl
theorem conv_later {w w1 : World} {c : Int} (hb : Below ((w.alloc (.cells #[.int .u8 c] 5)).drew).heap.size (w.alloc (.cells #[.int .u8 c] 5)).drew w1) : (convert 28 9 (.slice (some ⟨w.heap.size, 0, none⟩) 1 1)).run Tryd.prog w1 = .ok (.string (oneB c)) w1 :=
  conv_cell w1 w.heap.size c ((hb.cell (p := ⟨w.heap.size, 0, none⟩) (by show w.heap.size < (w.heap.push _).size; rw [Array.size_push]; exact Nat.lt_succ_self _)).trans (by rw [World.cell?_drew, World.cell?_alloc_at _ _ _ _ rfl]; rfl))
theorem oneB_digit (d : Nat) (h : d < 10) : oneB (48 + (d : Int)) = bs (decDigits d) := by
  unfold oneB
  rw [decDigits_one h, show (48 + (d : Int)).toNat = 48 + d by omega]

theorem below_of_drew {w w' : World} (h : Below w.drew.heap.size w.drew w') : Below w.heap.size w w' := ⟨h.os, h.tape, h.output, h.size, h.block⟩
set_option maxRecDepth 100000 in
theorem sNumber0 (u : Nat) : ∀ w : World, u ≤ 4611686018427387904 → Calls Tryd.prog 67 #[.int .i64 u] w fun e w' => e = .returned (.string (bs (decDigits u))) ∧ Below w.heap.size w w' := by
  induction u using Nat.strongRecOn with
  | _ u ih =>
    intro w hu
    have hcv := conv_one
    have hcd := conv_one_drew
    by_cases h : u < 10
    · clear ih
      go_enter Tryd.func67, Tryd.ntmps67
      go_wp2_with fail
      go_ret
      refine ⟨?_, below_alloc _ _⟩
      rw [← oneB_digit u h]
      rfl
    · obtain ⟨q, hq⟩ : ∃ q, q = u / 10 := ⟨_, rfl⟩
      obtain ⟨d, hd⟩ : ∃ d, d = u % 10 := ⟨_, rfl⟩
      have K : Hid (∀ w, Calls Tryd.prog 67 #[.int .i64 q] w fun e w' => e = .returned (.string (bs (decDigits q))) ∧ Below w.heap.size w w') := fun w => ih q (by omega) w (by omega)
      have e1 : (u : Int) / 10 = q := by omega
      have e2 : (u : Int).tmod 10 = d := by rw [Int.tmod_eq_emod_of_nonneg (by omega)]; omega
      have e3 : decDigits u = decDigits q ++ decDigits d := by
        rw [decDigits, dif_neg h, ← hq, ← hd, decDigits_one (show d < 10 by omega)]
      have hq2 : q ≤ 461168601842738790 := by omega
      have hd2 : d < 10 := by omega
      have E3 := Lib.hid e3
      have w1 : IntKind.i64.wrap (q : Int) = q := IntWalk.i64_in _ (by omega)
      have w2 : IntKind.i64.wrap (48 + (d : Int)) = 48 + d := IntWalk.i64_in _ (by omega)
      have w3 : IntKind.u8.wrap (48 + (d : Int)) = 48 + d := IntWalk.u8_in _ (by omega)
      have hz1 : (bs (decDigits q)).size ≤ 20 := by
        rw [bs_size, decDigits_length]; exact nDigits_le20 q (by omega)
      have hz2 : (oneB (48 + (d : Int))).size = 1 := by unfold oneB; rw [bs_size]; rfl
      have hz : ¬ 9223372036854775807 < (bs (decDigits q)).size + (oneB (48 + (d : Int))).size := by omega
      clear hz1 hz2
      have h10 : ((u : Int) < 10) = False := by simp; omega
      clear ih hq hd e3
      go_enter Tryd.func67, Tryd.ntmps67
      go_wp2_with fail
      go_region_law ((go_simp; go_at_call 67; (with_reducible refine Calls.mono (K.out _) ?_); rintro e w1 ⟨rfl, hb⟩; first | (have hcx := conv_later hb) | skip))
      all_goals
        go_wp2_with fail
        go_ret
        refine ⟨?_, ?_⟩
        · show Ending.returned (.string (bs (decDigits q) ++ oneB (48 + (d : Int)))) = _
          rw [E3.out, oneB_digit d hd2, bs_append]
        · first
            | exact (below_of_drew hb).alloc (below_of_drew hb).size _
            | exact (below_alloc w _).trans ((below_of_drew hb).mono (by show w.heap.size ≤ (w.heap.push _).size; rw [Array.size_push]; omega))
set_option maxRecDepth 100000 in
/-- A number's text, by the reference. -/
theorem sNumber (n : Int) (h0 : -4611686018427387904 ≤ n) (h1 : n ≤ 4611686018427387904) (w : World) : Calls Tryd.prog 67 #[.int .i64 n] w fun e w' => e = .returned (.string (bs (itoa n))) ∧ Below w.heap.size w w' := by
  by_cases hn : n < 0
  · obtain ⟨u, rfl⟩ : ∃ u : Nat, n = -(u : Int) := ⟨n.natAbs, by omega⟩
    have K := sNumber0 u
    have e1 : IntKind.i64.wrap (u : Int) = u := IntWalk.i64_in _ (by omega)
    have e2 : (-(u : Int) == (u : Int)) = false := by rw [beq_eq_false_iff_ne]; omega
    have hz1 : (bs (decDigits u)).size ≤ 20 := by rw [bs_size, decDigits_length]; exact nDigits_le20 u (by omega)
    have HU : u ≤ 4611686018427387904 := by omega
    have HK := Lib.hid K
    clear K
    go_enter Tryd.func67, Tryd.ntmps67
    go_wp2_with fail
    refine (HK.out _ HU).mono ?_
    rintro e w1 ⟨rfl, hb⟩
    go_wp2_with fail
    go_ret
    refine ⟨?_, hb⟩
    rw [itoa_neg u (by omega)]
    show Ending.returned (.string (bs [45] ++ bs (decDigits u))) = _
    rw [bs_append]; rfl
  · obtain ⟨u, rfl⟩ : ∃ u : Nat, n = u := ⟨n.toNat, by omega⟩
    rw [itoa_nonneg]
    exact sNumber0 u w (by omega)
end Go.Proofs.YtemcdeopehdggaaDoor
