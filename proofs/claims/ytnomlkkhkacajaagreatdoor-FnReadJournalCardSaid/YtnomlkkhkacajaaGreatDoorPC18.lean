/- Texts on the way to a law (U9), each with its own remark. -/
import Derived.Test.YtnomlkkhkacajaaGreatDoorPC17
import Derived.Lib.OthersKept
import Derived.Laws.RangeAny
namespace Go.Proofs.YtnomlkkhkacajaaGreatDoor
open Go.RowKit
open Go.Lib hiding intOf

def mils (ps : List Pr) : List C := ps.map fun p => milli p.1 p.2
/-- What is left to scan. -/
theorem scan_num {T : Txt} {pos f : Nat} {parts : List Int} (hf : f ≤ pos) (hp : pos < T.length) (h : NumB T[pos]) :
    scan (T.drop pos) ((T.drop f).take (pos - f)) parts = scan (T.drop (pos + 1)) ((T.drop f).take (pos + 1 - f)) parts := by
  rw [drop_take_next hf hp, List.drop_eq_getElem_cons hp, scan, if_pos (show (T[pos]).toNat = 45 ∨ (48 ≤ (T[pos]).toNat ∧ (T[pos]).toNat ≤ 57) from h)]
theorem scan_sep {T : Txt} {pos f : Nat} {parts : List Int} (hp : pos < T.length) (h : ¬ NumB T[pos]) (h2 : ((T[pos]).toNat = 44 ∧ parts.length % 2 = 0) ∨ ((T[pos]).toNat = 59 ∧ parts.length % 2 = 1)) :
    scan (T.drop pos) ((T.drop f).take (pos - f)) parts = match digs ((T.drop f).take (pos - f)) with
      | none => none
      | some n => if parts.length = 32 then none else scan (T.drop (pos + 1)) ((T.drop (pos + 1)).take (pos + 1 - (pos + 1))) (parts ++ [n]) := by
  rw [List.drop_eq_getElem_cons hp, scan, if_neg (show ¬ ((T[pos]).toNat = 45 ∨ (48 ≤ (T[pos]).toNat ∧ (T[pos]).toNat ≤ 57)) from h), if_pos h2, Nat.sub_self, List.take_zero]
  rfl
theorem scan_bad {T : Txt} {pos f : Nat} {parts : List Int} (hp : pos < T.length) (h : ¬ NumB T[pos]) (h2 : ¬ (((T[pos]).toNat = 44 ∧ parts.length % 2 = 0) ∨ ((T[pos]).toNat = 59 ∧ parts.length % 2 = 1))) :
    scan (T.drop pos) ((T.drop f).take (pos - f)) parts = none := by
  rw [List.drop_eq_getElem_cons hp, scan, if_neg (show ¬ ((T[pos]).toNat = 45 ∨ (48 ≤ (T[pos]).toNat ∧ (T[pos]).toNat ≤ 57)) from h), if_neg h2]
theorem readSig_ne {l : Txt} {o : Option (List Int)} (hl : l ≠ [45]) (h : scan (l ++ [59]) [] [] = o) : (readSig l).map flat = o := by rw [← scan_readSig l hl, h]
theorem mils_get : ∀ {prs : List Pr} {j : Nat}, j < prs.length → ((mils prs).map cv)[j]? = some (cv (milli (inth (flat prs) (2 * j)) (inth (flat prs) (2 * j + 1))))
  | [], j, h => by simp at h
  | p :: r, 0, _ => rfl
  | p :: r, j + 1, h => by
    have := mils_get (prs := r) (j := j) (by simp at h; omega)
    have e1 : inth (flat (p :: r)) (2 * (j + 1)) = inth (flat r) (2 * j) := by
      show (p.1 :: p.2 :: flat r).getD (2 * (j + 1)) 0 = (flat r).getD (2 * j) 0
      rw [show 2 * (j + 1) = 2 * j + 1 + 1 by omega]; simp
    have e2 : inth (flat (p :: r)) (2 * (j + 1) + 1) = inth (flat r) (2 * j + 1) := by
      show (p.1 :: p.2 :: flat r).getD (2 * (j + 1) + 1) 0 = (flat r).getD (2 * j + 1) 0
      rw [show 2 * (j + 1) + 1 = 2 * j + 1 + 1 + 1 by omega]; simp
    rw [e1, e2]
    simpa [mils] using this
theorem own_ne' {w : World} {B n : Nat} {E : TypeId} {v : Value} {vs : List Value} {k : Nat} {s : ByteArray} {pos : Nat} (h : Ow w B E v n vs) (hk : w.heap[k]? = some (.stringIter s pos)) : v.ownBlock ≠ some k := by
  intro he
  rcases h.2 with ⟨rfl, _⟩ | ⟨g, cap, cur, hv, _, hh, _⟩
  · cases he
  · subst hv
    have : some g = some k := he
    cases this
    rw [hh] at hk; cases hk

section
variable {P : Program} {w : World} {ops : Array Oper} {rest : List Oper} {o : Oper} {a : Act} {Q : Exit → Act → World → Prop}
/-- append(out, us...), where all but the row itself stays. -/
theorem wl_appK (B : Nat) (us : List Value) (hB : B ≤ w.heap.size) (hgd : o.guard = none) (s x : Operand) (t : TypeId) (ho : o.op = .call { callee := .builtin .append, args := #[s, x], argTypes := #[t, t] })
    {E : TypeId} {z : Value} {bytes : Nat} (he : Elem P t E z bytes) (v : Value) (n : Nat) (vs : List Value) (hs : a.eval s = v) (hown : Ow w B E v n vs)
    (hx : a.eval x = .slice (some ⟨w.heap.size, 0, none⟩) us.length us.length) (hu : ∀ u ∈ us, u.oneCell' = true) (h63 : n + us.length ≤ maxLen) (hbytes : (n + us.length) * bytes ≤ 140737488355328)
    (h : ∀ v' w', Ow w' B E v' (n + us.length) (vs ++ us) → Below B w w' → (∀ b, b < w.heap.size → v.ownBlock ≠ some b → w'.heap[b]? = w.heap[b]?) → wpList P ops Q rest (a.put o.dst v') w') : wpList P ops Q (o :: rest) a (w.alloc (.cells us.toArray E)) := by
  obtain ⟨i, h2, h3, h4, h5⟩ := he.info
  subst h5
  refine wpList_append_own (w.alloc (.cells us.toArray E)) hgd s x t ho B E i z 1 i.bytes he.und h2 h3 h4 rfl (by rw [he.one]; rfl) (by decide) v n vs hs (World.ownsRow.alloc hown _) ⟨w.heap.size, 0, none⟩ us.length us.length us hx (by simp) ?_ hu h63 hbytes ?_ ?_
  · intro j u' hj
    have hj' := (List.getElem?_eq_some_iff.1 hj).1
    rw [add_none0, World.cell?_alloc_at _ _ _ _ rfl]
    simpa using hj
  · simp
    omega
  · intro v' w' h1 h2 _
    refine h v' w' h1 (((Below.refl B w).alloc hB _).grown h2 (by simp; omega) ?_) fun b hb hne => ?_
    · intro k hk
      exact (World.ownsRow.lt hown k hk).1
    · rw [h2.block b (by simp; omega) (fun e => hne e.symm)]
      exact (World.grownBy_alloc w _ none).block b hb (by simp)
end
theorem ow_iterAt {w : World} {B n : Nat} {E : TypeId} {v : Value} {vs : List Value} {k : Nat} {s : ByteArray} {pos pos' : Nat} (h : Ow w B E v n vs) (hk : w.heap[k]? = some (.stringIter s pos)) : Ow (w.iterAt k s pos') B E v n vs := by
  refine ⟨h.1, ?_⟩
  rcases h.2 with h0 | ⟨g, cap, cur, hv, hg, hh, hr⟩
  · exact .inl h0
  · refine .inr ⟨g, cap, cur, hv, hg, ?_, hr⟩
    rw [Lib.iterAt_other]
    · exact hh
    · intro e; subst e; rw [hk] at hh; cases hh
set_option maxRecDepth 100000 in
set_option maxHeartbeats 2000000 in
theorem iReadSignal (l : Txt) (hl : l.length ≤ 1073741824) (w : World) (hE : EnvA w) :
    Calls Tryz.prog 109 #[.string (bs l)] w (RetO w ((readSig l).map mils)) := by
  have hto := bs_toList l
  by_cases h45 : l = [45]
  · subst h45
    go_enter Tryz.func109, Tryz.ntmps109
    go_wp2_with fail
    go_step3
    go_wp2_with fail
    rw [Exit.noGoto_ret]
    go_ret2
    exact ⟨_, _, _, rfl, Ow.nil_ _ _ _, Below.refl _ _⟩
  obtain ⟨T, hT⟩ : ∃ T, T = l ++ [59] := ⟨_, rfl⟩
  obtain ⟨N, hN⟩ : ∃ N, N = T.length := ⟨_, rfl⟩
  have hNl : N = l.length + 1 := by rw [hN, hT]; simp
  have happ : bs l ++ { data := #[59] } = bs T := by rw [show ({ data := #[59] } : ByteArray) = bs [59] from rfl, bs_append, ← hT]
  have hsz : (bs T).size = N := by rw [bs_size, hN]
  have hszl : (bs l).size ≤ 1073741824 := by rw [bs_size]; exact hl
  have hx := bs_extract T
  have H45 := Lib.hid h45
  have h45b : (l == [45]) = false := by rw [beq_eq_false_iff_ne]; exact h45
  have HT := Lib.hid hT
  have HN := Lib.hid hN
  have HE := Lib.hid hE
  have hN2 : N ≤ 1073741825 := by omega
  have HNl := Lib.hid hNl
  clear hT hN hE h45 hNl hl
  go_enter Tryz.func109, Tryz.ntmps109
  go_wp2_with fail
  go_step3
  go_wp2_with (at_make; refine wl_make0 (w0 := w) rfl (.const (.int .i64 0)) (.const (.int .i64 32)) 92 rfl Tryz.eI .i64 .i64 32 32 rfl rfl rfl (by decide) (by unfold maxLen; omega) (Below.refl _ _) ?_; intro w1 hown hb1 _)
  have hit0 := World.iter_heap w1 (bs T) 0
  have hoth : ∀ j, j < w1.heap.size → (w1.iter (bs T) 0).heap[j]? = w1.heap[j]? := fun j hj => by
    show (w1.heap.push _)[j]? = _
    rw [Array.getElem?_push, if_neg (by omega)]
  have hbi : Below w1.heap.size w1 (w1.iter (bs T) 0) := ⟨rfl, rfl, rfl, by simp [World.iter], hoth⟩
  have HI0 := Lib.hid hit0
  have HB1 : Hid (Below w.heap.size w (w1.iter (bs T) 0)) := hb1.trans (hbi.mono hb1.size)
  have HO1 : Hid (Ow (w1.iter (bs T) 0) w.heap.size 3 (.slice (some ⟨w.heap.size, 0, none⟩) 0 32) 0 []) := Ow.below hown hbi
  have hK : w.heap.size ≤ w1.heap.size := hb1.size
  obtain ⟨K, hKe⟩ : ∃ K, K = w1.heap.size := ⟨_, rfl⟩
  rw [← hKe] at HI0 hK
  have HKE := Lib.hid hKe
  clear hit0 hoth hbi hown hb1
  go_step3
  go_wp2_with fail
  rw [← hKe]
  clear hKe
  -- nothing is read
  have NOT : Hid (∀ w', Below w.heap.size w w' → scan T [] [] = none → RetO w ((readSig l).map mils) (.returned (.tuple #[.slice none 0 0, .bool false])) w') := fun w' hb hs => by
    have h1 := readSig_ne (o := none) H45.out (by rw [← HT.out]; exact hs)
    cases hr : readSig l with
    | none => exact ⟨_, _, _, rfl, Ow.nil_ _ _ _, hb⟩
    | some ps => rw [hr] at h1; cases h1
  go_loopw [5, 6] (fun v fv wr => ∃ (pos f : Nat) (ps : List Int), f ≤ pos ∧ pos ≤ N ∧ fv = .int .i64 f ∧ ps.length ≤ 32 ∧ scan T [] [] = scan (T.drop pos) ((T.drop f).take (pos - f)) ps ∧ Ow wr w.heap.size 3 v ps.length (ps.map iv) ∧ wr.heap[K]? = some (.stringIter (bs T) pos) ∧ Below w.heap.size w wr) (fun _ _ wr => N - wr.iterPos K)
  case atStart => exact ⟨0, 0, [], by omega, by omega, rfl, by simp, by simp, HO1.out, HI0.out, HB1.out⟩
  case round =>
    obtain ⟨pos, f, ps, hf, hp, rfl, hps, hsc, ho, hit, hb⟩ := hrel
    have HS := Lib.hid hsc
    have HO := Lib.hid ho
    have HIT := Lib.hid hit
    have HB := Lib.hid hb
    clear hsc ho hit hb
    by_cases hlt : pos < N
    · have hltT : pos < T.length := by rw [← HN.out]; exact hlt
      have hlts : pos < (bs T).size := by rw [hsz]; exact hlt
      have hfN : (f : Int) < (N : Int) := by omega
      obtain ⟨d, hd⟩ : ∃ d, d = (T[pos]'hltT).toNat := ⟨_, rfl⟩
      have hd256 : d < 256 := by rw [hd]; exact UInt8.toNat_lt _
      have hbd : ((bs T)[pos]'hlts).toNat = d := (bs_get T pos hltT hlts).trans hd.symm
      have HD := Lib.hid hd
      have HW : Hid (∀ w, EnvA w → Calls Tryz.prog 92 #[.string (bs ((T.drop f).take (pos - f))), .int .i64 (-9999999), .int .i64 9999999] w fun e w' => e = .returned (.tuple #[ov (digs ((T.drop f).take (pos - f))), .bool (digs ((T.drop f).take (pos - f))).isSome]) ∧ Below w.heap.size w w') := fun w h => by
        have := iWhole ((T.drop f).take (pos - f)) (-9999999) 9999999 (by rw [List.length_take, List.length_drop, ← HN.out]; omega) (by omega) (by omega) w h
        rw [whole?_digs] at this
        exact this
      by_cases h128 : 128 ≤ d
      · have hdc := decode_high (bs T) pos hlts (by rw [hbd]; exact h128)
        have hnx := fun ty => Lib.run_next_any_at (P := Tryz.prog) wr K (bs T) pos ty HIT.out hlts
        have HB2 := Lib.hid (Lib.below_iterAt HB.out hK (bs T) (pos + (Utf8.decode (bs T) pos).2))
        have HSC : Hid (scan T [] [] = none) := by
          show _ = _
          rw [HS.out, scan_bad hltT (by unfold NumB; rw [← HD.out]; omega) (by rw [← HD.out]; omega)]
        generalize wr.iterAt K (bs T) (pos + (Utf8.decode (bs T) pos).2) = wi at *
        have hdc1 := hdc.1
        clear hdc
        generalize (Utf8.decode (bs T) pos).1 = r at *
        have c1 : ((r : Int) == 45) = false := by rw [beq_eq_false_iff_ne]; omega
        have c2 : (48 : Int) ≤ (r : Int) := by omega
        have c3 : ¬ (r : Int) ≤ 57 := by omega
        have c4 : ((r : Int) == 44) = false := by rw [beq_eq_false_iff_ne]; omega
        have c5 : ((r : Int) == 59) = false := by rw [beq_eq_false_iff_ne]; omega
        clear HD hd hbd hlts hltT h128 hdc1
        go_wp2_with fail
        try rw [Exit.noGoto_ret]
        go_ret2
        exact NOT.out _ HB2.out HSC.out
      have hnx := fun ty => Lib.run_next_ascii_at (P := Tryz.prog) wr K (bs T) pos ty HIT.out hlts (by rw [hbd]; omega)
      rw [hbd] at hnx
      have HIT2 := Lib.hid (Lib.iterAt_heap wr K (bs T) pos (pos + 1) HIT.out)
      have HB2 := Lib.hid (Lib.below_iterAt HB.out hK (bs T) (pos + 1))
      have HO2 : Hid (Ow (wr.iterAt K (bs T) (pos + 1)) w.heap.size 3 u5 ps.length (ps.map iv)) := ow_iterAt HO.out HIT.out
      generalize wr.iterAt K (bs T) (pos + 1) = wi at *
      by_cases hnb : d = 45 ∨ (48 ≤ d ∧ d ≤ 57)
      · have HNX : Hid (scan T [] [] = scan (T.drop (pos + 1)) ((T.drop f).take (pos + 1 - f)) ps) := by
          show _ = _
          rw [HS.out, scan_num hf hltT (by unfold NumB; rw [← HD.out]; exact hnb)]
        clear HD hd hbd hlts hltT
        by_cases h45 : d = 45
        · have c1 : ((d : Int) == 45) = true := by rw [beq_iff_eq]; omega
          clear hnb h45
          go_wp2_with fail
          go_roundw
          case rel => exact ⟨pos + 1, f, ps, by omega, by omega, rfl, by omega, HNX.out, HO2.out, HIT2.out, HB2.out⟩
          case measure =>
            simp only [World.iterPos, HIT2.out, HIT.out]
            omega
        · have c1 : ((d : Int) == 45) = false := by rw [beq_eq_false_iff_ne]; omega
          have c2 : (48 : Int) ≤ (d : Int) := by omega
          have c3 : (d : Int) ≤ 57 := by omega
          clear hnb h45
          go_wp2_with fail
          go_roundw
          case rel => exact ⟨pos + 1, f, ps, by omega, by omega, rfl, by omega, HNX.out, HO2.out, HIT2.out, HB2.out⟩
          case measure =>
            simp only [World.iterPos, HIT2.out, HIT.out]
            omega
      · have hnn : ¬ NumB (T[pos]'hltT) := by unfold NumB; rw [← HD.out]; exact hnb
        have c1 : ((d : Int) == 45) = false := by rw [beq_eq_false_iff_ne]; omega
        by_cases h44 : d = 44
        · have c2 : ¬ (48 : Int) ≤ (d : Int) := by omega
          have c4 : ((d : Int) == 44) = true := by rw [beq_iff_eq]; omega
          have c5 : ((d : Int) == 59) = false := by rw [beq_eq_false_iff_ne]; omega
          by_cases hev : ps.length % 2 = 0
          · have HSS := Lib.hid (HS.out.trans (scan_sep hltT hnn (.inl ⟨by rw [← HD.out]; exact h44, hev⟩)))
            have c6 : (((ps.length : Int) % 2) == 0) = true := by rw [beq_iff_eq]; omega
            have c7 : ((ps.length : Int).tmod 2 == 0) = true := by rw [Int.tmod_eq_emod_of_nonneg (by omega)]; exact c6
            clear HD hd hbd hlts hltT hnb hnn h44 hev
            obtain ⟨A5, C5, rfl⟩ := HO2.out.shape
            go_wp2_with fail
            refine (HW.out _ (HE.out.kp (Kp.below HB2.out))).mono ?_
            rintro e w3 ⟨rfl, hb3⟩
            have HB3 : Hid (Below w.heap.size w w3) := HB2.out.trans (hb3.mono HB2.out.size)
            have HO3 : Hid (Ow w3 w.heap.size 3 (.slice A5 ps.length C5) ps.length (ps.map iv)) := Ow.below HO2.out hb3
            have HIT3 : Hid (w3.heap[K]? = some (.stringIter (bs T) (pos + 1))) := (hb3.block K (Array.getElem?_eq_some_iff.1 HIT2.out).1).trans HIT2.out
            clear hb3
            cases hdg : digs ((T.drop f).take (pos - f)) with
            | none =>
              have HSC : Hid (scan T [] [] = none) := by
                show _ = _
                rw [HSS.out, hdg]
              clear hdg
              go_wp2_with fail
              try rw [Exit.noGoto_ret]
              go_ret2
              exact NOT.out _ HB3.out HSC.out
            | some x =>
              have hxb := (digs_iff.1 hdg).2
              by_cases h32 : ps.length = 32
              · have HSC : Hid (scan T [] [] = none) := by
                  show _ = _
                  rw [HSS.out, hdg]
                  exact if_pos h32
                have hl32 : ((ps.length : Int) == 32) = true := by rw [beq_iff_eq]; omega
                clear hdg h32
                simp only [ov, Option.getD_some, Option.isSome_some]
                go_wp2_with fail
                try rw [Exit.noGoto_ret]
                go_ret2
                exact NOT.out _ HB3.out HSC.out
              · have HSC : Hid (scan T [] [] = scan (T.drop (pos + 1)) ((T.drop (pos + 1)).take (pos + 1 - (pos + 1))) (ps ++ [x])) := by
                  show _ = _
                  rw [HSS.out, hdg]
                  exact if_neg h32
                have hl32 : ((ps.length : Int) == 32) = false := by rw [beq_eq_false_iff_ne]; omega
                have hl31 : ps.length ≤ 31 := by omega
                have hsz3 := HB3.out.size
                have HNE := Lib.hid (own_ne' HO3.out HIT3.out)
                clear hdg h32
                simp only [ov, Option.getD_some, Option.isSome_some]
                go_wp2_with (at_builtin; refine wl_appK w.heap.size [.int .i64 x] hsz3 rfl (.tmp 65) (.tmp 67) 92 rfl Tryz.eI (.slice A5 ps.length C5) ps.length _ rfl HO3.out rfl (by simp [Value.oneCell']) (by simp [maxLen]; omega) (by simp; omega) ?_; intro v' w4 ho4 hb4 hf4; have HO4 := Lib.hid ho4; have HB4 := Lib.hid hb4; have HF4 := Lib.hid hf4; clear ho4 hb4 hf4)
                have HIT4 : Hid (w4.heap[K]? = some (.stringIter (bs T) (pos + 1))) := (HF4.out K (Array.getElem?_eq_some_iff.1 HIT3.out).1 HNE.out).trans HIT3.out
                go_roundw
                case rel => exact ⟨pos + 1, pos + 1, ps ++ [x], by omega, by omega, by go_num, by simp; omega, HSC.out, by rw [List.map_append, List.length_append]; exact HO4.out, HIT4.out, HB3.out.trans HB4.out⟩
                case measure =>
                  simp only [World.iterPos, HIT4.out, HIT.out]
                  omega
          · have HSC : Hid (scan T [] [] = none) := by
              show _ = _
              rw [HS.out, scan_bad hltT hnn (by rw [← HD.out]; omega)]
            have c6 : (((ps.length : Int) % 2) == 0) = false := by rw [beq_eq_false_iff_ne]; omega
            have c7 : ((ps.length : Int).tmod 2 == 0) = false := by rw [Int.tmod_eq_emod_of_nonneg (by omega)]; exact c6
            clear HD hd hbd hlts hltT hnb hnn h44 hev
            obtain ⟨A5, C5, rfl⟩ := HO2.out.shape
            go_wp2_with fail
            try rw [Exit.noGoto_ret]
            go_ret2
            exact NOT.out _ HB2.out HSC.out
        · have c4 : ((d : Int) == 44) = false := by rw [beq_eq_false_iff_ne]; omega
          by_cases h59 : d = 59
          · have c2 : (48 : Int) ≤ (d : Int) := by omega
            have c3 : ¬ (d : Int) ≤ 57 := by omega
            have c5 : ((d : Int) == 59) = true := by rw [beq_iff_eq]; omega
            by_cases hev : ps.length % 2 = 1
            · have HSS := Lib.hid (HS.out.trans (scan_sep hltT hnn (.inr ⟨by rw [← HD.out]; exact h59, hev⟩)))
              have c6 : (((ps.length : Int) % 2) == 1) = true := by rw [beq_iff_eq]; omega
              have c7 : ((ps.length : Int).tmod 2 == 1) = true := by rw [Int.tmod_eq_emod_of_nonneg (by omega)]; exact c6
              clear HD hd hbd hlts hltT hnb hnn h44 h59 hev
              obtain ⟨A5, C5, rfl⟩ := HO2.out.shape
              go_wp2_with fail
              refine (HW.out _ (HE.out.kp (Kp.below HB2.out))).mono ?_
              rintro e w3 ⟨rfl, hb3⟩
              have HB3 : Hid (Below w.heap.size w w3) := HB2.out.trans (hb3.mono HB2.out.size)
              have HO3 : Hid (Ow w3 w.heap.size 3 (.slice A5 ps.length C5) ps.length (ps.map iv)) := Ow.below HO2.out hb3
              have HIT3 : Hid (w3.heap[K]? = some (.stringIter (bs T) (pos + 1))) := (hb3.block K (Array.getElem?_eq_some_iff.1 HIT2.out).1).trans HIT2.out
              clear hb3
              cases hdg : digs ((T.drop f).take (pos - f)) with
              | none =>
                have HSC : Hid (scan T [] [] = none) := by
                  show _ = _
                  rw [HSS.out, hdg]
                clear hdg
                go_wp2_with fail
                try rw [Exit.noGoto_ret]
                go_ret2
                exact NOT.out _ HB3.out HSC.out
              | some x =>
                have hxb := (digs_iff.1 hdg).2
                by_cases h32 : ps.length = 32
                · have HSC : Hid (scan T [] [] = none) := by
                    show _ = _
                    rw [HSS.out, hdg]
                    exact if_pos h32
                  have hl32 : ((ps.length : Int) == 32) = true := by rw [beq_iff_eq]; omega
                  clear hdg h32
                  simp only [ov, Option.getD_some, Option.isSome_some]
                  go_wp2_with fail
                  try rw [Exit.noGoto_ret]
                  go_ret2
                  exact NOT.out _ HB3.out HSC.out
                · have HSC : Hid (scan T [] [] = scan (T.drop (pos + 1)) ((T.drop (pos + 1)).take (pos + 1 - (pos + 1))) (ps ++ [x])) := by
                    show _ = _
                    rw [HSS.out, hdg]
                    exact if_neg h32
                  have hl32 : ((ps.length : Int) == 32) = false := by rw [beq_eq_false_iff_ne]; omega
                  have hl31 : ps.length ≤ 31 := by omega
                  have hsz3 := HB3.out.size
                  have HNE := Lib.hid (own_ne' HO3.out HIT3.out)
                  clear hdg h32
                  simp only [ov, Option.getD_some, Option.isSome_some]
                  go_wp2_with (at_builtin; refine wl_appK w.heap.size [.int .i64 x] hsz3 rfl (.tmp 65) (.tmp 67) 92 rfl Tryz.eI (.slice A5 ps.length C5) ps.length _ rfl HO3.out rfl (by simp [Value.oneCell']) (by simp [maxLen]; omega) (by simp; omega) ?_; intro v' w4 ho4 hb4 hf4; have HO4 := Lib.hid ho4; have HB4 := Lib.hid hb4; have HF4 := Lib.hid hf4; clear ho4 hb4 hf4)
                  have HIT4 : Hid (w4.heap[K]? = some (.stringIter (bs T) (pos + 1))) := (HF4.out K (Array.getElem?_eq_some_iff.1 HIT3.out).1 HNE.out).trans HIT3.out
                  go_roundw
                  case rel => exact ⟨pos + 1, pos + 1, ps ++ [x], by omega, by omega, by go_num, by simp; omega, HSC.out, by rw [List.map_append, List.length_append]; exact HO4.out, HIT4.out, HB3.out.trans HB4.out⟩
                  case measure =>
                    simp only [World.iterPos, HIT4.out, HIT.out]
                    omega
            · have HSC : Hid (scan T [] [] = none) := by
                show _ = _
                rw [HS.out, scan_bad hltT hnn (by rw [← HD.out]; omega)]
              have c6 : (((ps.length : Int) % 2) == 1) = false := by rw [beq_eq_false_iff_ne]; omega
              have c7 : ((ps.length : Int).tmod 2 == 1) = false := by rw [Int.tmod_eq_emod_of_nonneg (by omega)]; exact c6
              clear HD hd hbd hlts hltT hnb hnn h44 h59 hev
              obtain ⟨A5, C5, rfl⟩ := HO2.out.shape
              go_wp2_with fail
              try rw [Exit.noGoto_ret]
              go_ret2
              exact NOT.out _ HB2.out HSC.out
          · have c5 : ((d : Int) == 59) = false := by rw [beq_eq_false_iff_ne]; omega
            have HSC : Hid (scan T [] [] = none) := by
              show _ = _
              rw [HS.out, scan_bad hltT hnn (by rw [← HD.out]; omega)]
            by_cases hlo : d < 48
            · have c2 : ¬ (48 : Int) ≤ (d : Int) := by omega
              clear HD hd hbd hlts hltT hnb hnn h44 h59 hlo
              go_wp2_with fail
              try rw [Exit.noGoto_ret]
              go_ret2
              exact NOT.out _ HB2.out HSC.out
            · have c2 : (48 : Int) ≤ (d : Int) := by omega
              have c3 : ¬ (d : Int) ≤ 57 := by omega
              clear HD hd hbd hlts hltT hnb hnn h44 h59 hlo
              go_wp2_with fail
              try rw [Exit.noGoto_ret]
              go_ret2
              exact NOT.out _ HB2.out HSC.out
    · obtain rfl : pos = N := by omega
      have hnx := fun ty => Lib.run_next_end_at (P := Tryz.prog) wr K (bs T) pos ty HIT.out (by rw [hsz]; omega)
      obtain ⟨A5, C5, rfl⟩ := HO.out.shape
      have HDR : Hid (T.drop pos = []) := List.drop_of_length_le (by rw [← HN.out]; exact Nat.le_refl _)
      by_cases hfl : f < pos
      · have hfN : (f : Int) < (pos : Int) := by omega
        have HSC : Hid (scan T [] [] = none) := by
          show _ = _
          rw [HS.out, HDR.out, scan, if_neg]
          intro h
          have := congrArg List.length h
          rw [List.length_take, List.length_drop, ← HN.out] at this
          simp at this; omega
        clear hfl
        go_wp2_with fail
        try rw [Exit.noGoto_ret]
        go_ret2
        exact NOT.out _ HB.out HSC.out
      · obtain rfl : f = pos := by omega
        have hsome : (readSig l).map flat = some ps := readSig_ne H45.out (by rw [← HT.out, HS.out, HDR.out, scan, if_pos (by simp)])
        obtain ⟨prs, hr, hfl⟩ : ∃ prs, readSig l = some prs ∧ flat prs = ps := by
          cases h : readSig l with
          | none => rw [h] at hsome; cases hsome
          | some prs => rw [h] at hsome; exact ⟨prs, rfl, by simpa using hsome⟩
        have HR := Lib.hid hr
        have HFL := Lib.hid hfl
        have HL2 : Hid (ps.length = 2 * prs.length) := by show _ = _; rw [← hfl, flat_length]
        have hx2 : Sl wr A5 ps.length (ps.map iv) := HO.out.sl
        obtain ⟨k, hk⟩ : ∃ k, k = ps.length := ⟨_, rfl⟩
        rw [← hk] at hx2 hps ⊢
        have HK := Lib.hid hk
        have hsz1 := HB.out.size
        clear hsome hr hfl hk hx
        go_wp2_with (at_make; refine wl_make (w0 := w) rfl (.tmp 77) (.tmp 77) 23 rfl Tryz.eC .i64 .i64 (k / 2) _ _ rfl rfl (by omega) (by omega) (by omega) (by unfold maxLen; omega) HB.out ?_; intro w5 hown hb5 hb6)
        have HF : Hid (((mils prs).map cv).length = k / 2) := by show _ = _; rw [List.length_map, mils, List.length_map]; have := HL2.out; have := HK.out; omega
        have HOW := Lib.hid hown
        have HB6 := Lib.hid hb6
        have HX2 := Lib.hid hx2
        obtain ⟨R, hR⟩ : ∃ R : Option Addr, R = some ⟨wr.heap.size, 0, none⟩ := ⟨_, rfl⟩
        rw [← hR] at HOW ⊢
        obtain ⟨B0, hB0⟩ : ∃ B0, B0 = wr.heap.size := ⟨_, rfl⟩
        rw [← hB0] at hR
        have HR2 := Lib.hid hR
        have HB0 := Lib.hid hB0
        have HSB : Hid (∀ wx, Below B0 wr wx → Sl wx A5 k (ps.map iv) ∧ Below w.heap.size w wx) := fun wx h => ⟨Sl.below HX2.out (by rw [← HB0.out]; exact h), HB.out.trans (h.mono (by rw [HB0.out]; exact HB.out.size))⟩
        clear hown hb5 hb6 hx2 hR hB0
        go_wp2_with fail
        go_loopw [81] (fun i wx => ∃ j : Nat, j ≤ k / 2 ∧ i = .int .i64 j ∧ Ow wx w.heap.size 73 (.slice R (k / 2) (k / 2)) (k / 2) (fill ((mils prs).map cv) (k / 2) j (.complex .f32 0 0)) ∧ Below B0 wr wx) (fun i _ => k / 2 - (intOf i).toNat)
        case atStart => exact ⟨0, by omega, rfl, by rw [fill_zero]; exact HOW.out, by rw [HB0.out]; exact HB6.out⟩
        case round =>
          obtain ⟨j, hj, rfl, ho, hb⟩ := hrel
          by_cases hjl : j < k / 2
          · obtain ⟨b, o, rfl, hbl, hc⟩ := (HSB.out _ hb).1.int_at (show 2 * j < k by omega)
            have c1 := hc (2 * j) (by omega)
            have c2 := hc (2 * j + 1) (by omega)
            have HU : Hid (((mils prs).map cv)[j]? = some (cv (milli (inth ps (2 * j)) (inth ps (2 * j + 1))))) := by
              show _ = _
              rw [← HFL.out]
              exact mils_get (by have := HL2.out; have := HK.out; omega)
            generalize inth ps (2 * j) = x at *
            generalize inth ps (2 * j + 1) = z at *
            have e3 : IntKind.i64.wrap (2 * (j : Int)) = 2 * (j : Int) := IntWalk.i64_in _ (by omega)
            have e4 : IntKind.i64.wrap (2 * (j : Int) + 1) = 2 * (j : Int) + 1 := IntWalk.i64_in _ (by omega)
            have f1 : (0 : Int) ≤ 2 * (j : Int) := by omega
            have f2 : 2 * (j : Int) < (k : Int) := by omega
            have f3 : (2 * (j : Int)).toNat = 2 * j := by omega
            have f4 : (0 : Int) ≤ 2 * (j : Int) + 1 := by omega
            have f5 : 2 * (j : Int) + 1 < (k : Int) := by omega
            have f6 : (2 * (j : Int) + 1).toNat = 2 * j + 1 := by omega
            go_wp2_with fail
            obtain ⟨g, hg, hge, hgl, hcell, hfr, hst⟩ := ho.at_ hjl
            have hgw : g = B0 := by
              have h1 := HR2.out
              rw [hg] at h1
              injection h1 with h1
              injection h1 with h1
            have HGW := Lib.hid hgw
            have c3 : wr.cell? ⟨g, j, none⟩ = some (.complex .f32 0 0) := (hcell j hjl).trans (fill_get HF.out hjl _)
            have hfr2 := hfr j
            have HS : Hid (Ow (wr.setCell ⟨g, j, none⟩ (cv (milli x z))) w.heap.size 73 (.slice R (k / 2) (k / 2)) (k / 2) (fill ((mils prs).map cv) (k / 2) (j + 1) (.complex .f32 0 0))) := by
              have h1 := hst j (cv (milli x z))
              rw [fill_set HF.out hjl _ _ HU.out, ← hg] at h1
              exact h1
            have HBX := Lib.hid hb
            clear hst hcell hfr ho hc hb hgw
            subst hg
            have HMI := Lib.hid (fun w => iMilli x z w)
            clear HU
            generalize milli x z = zz at *
            unfold cv at HMI HS
            go_still_tail 14, (by kernel_rfl)
            still_call (HMI.out _)
            repeat still_step
            refine wpStill_nil ?_
            change wpList _ _ _ _ _ wr.drew
            have c3' : wr.drew.cell? ⟨g, j, none⟩ = some (.complex .f32 0 0) := c3
            have hfr3 : wr.drew.frozen? ⟨g, j, none⟩ = false := hfr2
            clear e3 e4 f1 f2 f3 f4 f5 f6 c1 c2
            go_wp2_with fail
            go_roundw
            case rel => exact ⟨j + 1, by omega, by go_num, HS.out, (HBX.out.drew).setCell (by rw [HGW.out]; exact Nat.le_refl _) _⟩
            case measure => simp [intOf]; omega
          · obtain rfl : j = k / 2 := by omega
            have HW2 : Hid (Ow wr w.heap.size 73 (.slice R (k / 2) (k / 2)) (k / 2) ((mils prs).map cv)) := by
              show Ow _ _ _ _ _ _
              rw [fill_full HF.out] at ho; exact ho
            have HBX : Hid (Below w.heap.size w wr) := (HSB.out _ hb).2
            clear ho hb
            go_wp2_with fail
            try rw [Exit.noGoto_ret]
            go_ret2
            rw [HR.out]
            exact ⟨_, _, _, rfl, HW2.out, HBX.out⟩
end Go.Proofs.YtnomlkkhkacajaaGreatDoor
