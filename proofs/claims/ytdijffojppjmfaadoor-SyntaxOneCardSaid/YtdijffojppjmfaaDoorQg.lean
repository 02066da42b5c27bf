/- The lexer's first token, walked. -/
import Derived.Test.YtdijffojppjmfaaDoorQf
import Derived.Test.YtdijffojppjmfaaDoorQb
set_option linter.unusedVariables false
set_option linter.unusedSimpArgs false
namespace Go.Proofs.YtdijffojppjmfaaDoor
open Go.RowKit Bir Go.BW
theorem ba_to (s : Str) (k : Nat) : (ba s).extract 0 k = ba (s.take k) := by
  apply ByteArray.ext
  show ((ba s).extract 0 k).data = (s.take k).toArray
  rw [ByteArray.data_extract]
  show s.toArray.extract 0 k = _
  simp
theorem take_takeWhile (p : UInt8 → Bool) (t : Str) : t.take (t.takeWhile p).length = t.takeWhile p := by
  induction t with
  | nil => rfl
  | cons c r ih =>
    rw [List.takeWhile_cons]
    cases h : p c with
    | true => simp [ih]
    | false => simp
/-- The longest one of some strings that this one begins with. -/
def bestF (s : Str) : List Str → Str → Str
  | [], b => b
  | x :: r, b => bestF s r (if Lib.hasPrefix s x = true ∧ b.length < x.length then x else b)
theorem bestF_step (s : Str) {l : List Str} {k : Nat} {x : Str} (b : Str) (hx : l[k]? = some x) : bestF s (l.drop k) b = bestF s (l.drop (k + 1)) (if Lib.hasPrefix s x = true ∧ b.length < x.length then x else b) := by
  obtain ⟨h, rfl⟩ := List.getElem?_eq_some_iff.1 hx
  rw [List.drop_eq_getElem_cons h]
  rfl
theorem bestF_spec (s : Str) : ∀ (l : List Str) (b : Str), (b = [] ∨ b <+: s) →
    ((bestF s l b = b ∨ bestF s l b ∈ l ∧ bestF s l b <+: s) ∧ b.length ≤ (bestF s l b).length ∧ ∀ x ∈ l, x <+: s → x.length ≤ (bestF s l b).length)
  | [], b, h => ⟨.inl rfl, Nat.le_refl _, fun x hx => absurd hx List.not_mem_nil⟩
  | y :: l, b, h => by
    unfold bestF
    by_cases hy : Lib.hasPrefix s y = true ∧ b.length < y.length
    · rw [if_pos hy]
      have hp : y <+: s := List.isPrefixOf_iff_prefix.1 hy.1
      obtain ⟨h1, h2, h3⟩ := bestF_spec s l y (.inr hp)
      refine ⟨.inr ?_, by omega, fun x hx hxp => ?_⟩
      · rcases h1 with h1 | ⟨h1, h1'⟩
        · rw [h1]; exact ⟨List.mem_cons_self, hp⟩
        · exact ⟨List.mem_cons_of_mem _ h1, h1'⟩
      · rcases List.mem_cons.1 hx with rfl | hx
        · exact h2
        · exact h3 x hx hxp
    · rw [if_neg hy]
      obtain ⟨h1, h2, h3⟩ := bestF_spec s l b h
      refine ⟨h1.imp id (fun h => ⟨List.mem_cons_of_mem _ h.1, h.2⟩), h2, fun x hx hxp => ?_⟩
      rcases List.mem_cons.1 hx with rfl | hx
      · have : ¬ b.length < x.length := fun hlt => hy ⟨List.isPrefixOf_iff_prefix.2 hxp, hlt⟩
        omega
      · exact h3 x hx hxp
theorem signs_len : ∀ x ∈ signs, x.length = 1 ∨ x.length = 2 := by decide
theorem best_sign (s : Str) : bestF s signs [] = (sign s).getD [] := by
  obtain ⟨h1, _, h3⟩ := bestF_spec s signs [] (.inl rfl)
  generalize bestF s signs [] = b at h1 h3
  have hpre : ∀ x : Str, x <+: s → s.take x.length = x := fun x hx => (List.prefix_iff_eq_take.1 hx).symm
  unfold sign
  by_cases hs2 : s.take 2 ∈ signs ∧ 2 ≤ s.length
  · rw [if_pos hs2]
    have hp := List.take_prefix 2 s
    have := h3 _ hs2.1 hp
    have hl : (s.take 2).length = 2 := by simp; omega
    rcases h1 with rfl | ⟨hb, hbp⟩
    · rw [hl] at this; simp at this
    · have hb2 : b.length = 2 := by have := signs_len b hb; omega
      have := hpre b hbp
      rw [hb2] at this
      exact this.symm
  · rw [if_neg hs2]
    have no2 : ∀ x ∈ signs, x <+: s → x.length = 1 := fun x hx hxp => by
      rcases signs_len x hx with h | h
      · exact h
      · exfalso
        have e := hpre x hxp
        rw [h] at e
        have := hxp.length_le
        exact hs2 ⟨e ▸ hx, by omega⟩
    by_cases hs1 : s.take 1 ∈ signs
    · rw [if_pos hs1]
      have := h3 _ hs1 (List.take_prefix 1 s)
      have hl := signs_len _ hs1
      rcases h1 with rfl | ⟨hb, hbp⟩
      · simp only [List.length_nil] at this; omega
      · have e := hpre b hbp
        rw [no2 b hb hbp] at e
        exact e.symm
    · rw [if_neg hs1]
      rcases h1 with rfl | ⟨hb, hbp⟩
      · rfl
      · exfalso
        have e := hpre b hbp
        rw [no2 b hb hbp] at e
        exact hs1 (e ▸ hb)
/-- The first token as a value. -/
def firstV (s : Str) : Value :=
  match first s with
  | none => .agg #[.int .i64 0, .string ⟨#[]⟩, .int .i64 0]
  | some (k, t) => .agg #[.int .i64 k, .string (ba t), .int .i64 0]
abbrev zt : Obj := .cells #[.int .i64 0, .string ⟨#[]⟩, .int .i64 0] 49
section
variable {w w2 : World}
theorem tok_fin {fn : Func} {k : Nat} {tm : Array Value} {a b c : Value} {v : Value} (hfn : fn.results = #[.cell k 49]) (htm : tm.getD k undef = .pointer (some ⟨w.heap.size, 0, none⟩)) (hx : Below w.heap.size (w.alloc zt) w2) (hb : (w.alloc zt).heap[w.heap.size]? = w2.heap[w.heap.size]?)
    (hv : v = .agg #[a, b, c]) : bodyPost Tryd.prog fn (fun e w' => e = .returned v ∧ Below w.heap.size w w') .ret { tmps := tm, defers := [] } (set3 w2 w.heap.size a b c) := by
  have hc : cells3 w2 w.heap.size (.int .i64 0) (.string ⟨#[]⟩) (.int .i64 0) :=
    ⟨cell_same hb.symm (cells3.new w _ _ _ _).1, cell_same hb.symm (cells3.new w _ _ _ _).2.1, cell_same hb.symm (cells3.new w _ _ _ _).2.2⟩
  have hs := ext_set3 w2 w.heap.size a b c
  obtain ⟨q0, q1, q2⟩ := set3_cells a b c hc
  generalize set3 w2 w.heap.size a b c = W at *
  subst hv
  refine bodyPost_ret (v := .agg #[a, b, c]) ?_ rfl ⟨rfl, ?_⟩
  · have htm' : tm[k]?.getD undef = .pointer (some ⟨w.heap.size, 0, none⟩) := by rw [← htm]; simp
    simp [results, hfn, htm', go_sem, q0, q1, q2]
  · exact (((Below.refl _ w).alloc (Nat.le_refl _) _).trans hx).trans (hs.to_below (by have := hx.size; simp at this; omega) (fun k hk => by omega))
theorem tok_block (hb : (w.alloc zt).heap[w.heap.size]? = w2.heap[w.heap.size]?) : (w2.cell? ⟨w.heap.size, 0, none⟩ = some (.int .i64 0) ∧ w2.cell? ⟨w.heap.size, 1, none⟩ = some (.string ⟨#[]⟩) ∧ w2.cell? ⟨w.heap.size, 2, none⟩ = some (.int .i64 0)) ∧ ∀ o, w2.frozen? ⟨w.heap.size, o, none⟩ = false :=
  ⟨⟨cell_same hb.symm (cells3.new w _ _ _ _).1, cell_same hb.symm (cells3.new w _ _ _ _).2.1, cell_same hb.symm (cells3.new w _ _ _ _).2.2⟩, fun o => (World.frozen?_of_block (w := w.alloc zt) (a := ⟨w.heap.size, o, none⟩) hb.symm).trans (frozen_new w _ _ o)⟩
theorem first_eq (s : Str) (hb : 0 < (ba s).size) : first s = (if letterB ((ba s)[0]'hb) then some (if s.takeWhile wordB ∈ words then (2, s.takeWhile wordB) else (1, s.takeWhile wordB)) else if digitB ((ba s)[0]'hb) then some (3, s.takeWhile digitB) else (sign s).map fun t => (4, t)) := by
  cases s with
  | nil => exact absurd hb (Nat.lt_irrefl 0)
  | cons c r => rfl
set_option maxHeartbeats 2000000 in
theorem first_calls (s : Str) (w : World) (hs : s.length ≤ 1000000) (h0 : 0 < s.length) :
    Calls Tryd.prog 128 #[.string (ba s)] w fun e w' => e = .returned (firstV s) ∧ Below w.heap.size w w' := by
  have hb : 0 < (ba s).size := h0
  generalize hv : firstV s = v
  have HF := Lib.hid (first_eq s hb)
  have HV := Lib.hid hv
  clear hv
  cases hl : letterB ((ba s)[0]'hb) with
  | true =>
    have hn := takeWhile_length_le wordB s
    have HT := Lib.hid (take_takeWhile wordB s)
    rw [hl] at HF
    have HL := Lib.hid hl
    clear hl
    go_enter Tryd.func128, Tryd.ntmps128
    go_wp2_with fail
    refine (letter_calls _ _).mono ?_
    rintro en w1 ⟨rfl, rfl⟩
    rw [HL.out]
    go_wp2_with fail
    refine (while_calls 149 wordB (fun args w => wordfn_enters w args) wordfn_calls s _ hs).mono ?_
    rintro en w1 ⟨rfl, rfl⟩
    generalize hN : (s.takeWhile wordB).length = N at hn HT ⊢
    go_wp2_with fail
    rw [show (ba s).extract 0 N = ba (s.take N) from ba_to s N, HT.out]
    generalize s.takeWhile wordB = t at *
    refine (words_calls _).mono ?_
    rintro en w2 ⟨rfl, rfl⟩
    have hW := words_at (w.alloc zt)
    have hBW : Below w.heap.size (w.alloc zt) ((w.alloc zt).alloc (strsObj words)) := (Below.refl _ _).alloc (by simp) _
    have hKW : (w.alloc zt).heap[w.heap.size]? = ((w.alloc zt).alloc (strsObj words)).heap[w.heap.size]? := (Below.heap_alloc _ _ _ (by simp)).symm
    generalize (w.alloc zt).alloc (strsObj words) = W2 at hW hBW hKW ⊢
    rw [World.size_alloc] at hW
    simp only [World.size_alloc]
    have HW := Lib.hid hW
    have HBW := Lib.hid hBW
    have HKW := Lib.hid hKW
    clear hW hBW hKW
    go_wp2_with fail
    refine (contains_calls words t _ _ _ HW.out).mono ?_
    rintro en w2 ⟨rfl, rfl⟩
    obtain ⟨⟨c0, c1, c2⟩, cf⟩ := tok_block HKW.out
    cases hm : decide (t ∈ words) with
    | true =>
      have hv : v = .agg #[.int .i64 2, .string (ba t), .int .i64 0] := by rw [← HV.out]; simp [firstV, HF.out, of_decide_eq_true hm]
      have HVV := Lib.hid hv
      clear hv
      go_wp2_with fail
      exact tok_fin rfl rfl HBW.out HKW.out HVV.out
    | false =>
      have hv : v = .agg #[.int .i64 1, .string (ba t), .int .i64 0] := by rw [← HV.out]; simp [firstV, HF.out, of_decide_eq_false hm]
      have HVV := Lib.hid hv
      clear hv
      go_wp2_with fail
      exact tok_fin rfl rfl HBW.out HKW.out HVV.out
  | false =>
    rw [hl] at HF
    have HL := Lib.hid hl
    clear hl
    cases hd : digitB ((ba s)[0]'hb) with
    | true =>
      have hn := takeWhile_length_le digitB s
      have HT := Lib.hid (take_takeWhile digitB s)
      rw [hd] at HF
      have HD := Lib.hid hd
      clear hd
      go_enter Tryd.func128, Tryd.ntmps128
      go_wp2_with fail
      refine (letter_calls _ _).mono ?_
      rintro en w1 ⟨rfl, rfl⟩
      rw [HL.out]
      go_wp2_with fail
      refine (digit_calls _ _).mono ?_
      rintro en w1 ⟨rfl, rfl⟩
      rw [HD.out]
      go_wp2_with fail
      refine (while_calls 150 digitB (fun args w => digit_enters args w) digit_calls s _ hs).mono ?_
      rintro en w1 ⟨rfl, rfl⟩
      have hv : v = .agg #[.int .i64 3, .string (ba (s.takeWhile digitB)), .int .i64 0] := by rw [← HV.out]; simp [firstV, HF.out]
      have HVV := Lib.hid hv
      clear hv
      generalize hN : (s.takeWhile digitB).length = N at hn HT ⊢
      have HX : Hid ((ba s).extract 0 N = ba (s.takeWhile digitB)) := by rw [ba_to, HT.out]; exact rfl
      obtain ⟨W2, hW2⟩ : ∃ W2, w.alloc zt = W2 := ⟨_, rfl⟩
      have HBW : Hid (Below w.heap.size (w.alloc zt) W2) := by rw [← hW2]; exact Below.refl _ _
      have HKW : Hid ((w.alloc zt).heap[w.heap.size]? = W2.heap[w.heap.size]?) := by rw [← hW2]; exact rfl
      rw [hW2]
      clear hW2
      obtain ⟨⟨c0, c1, c2⟩, cf⟩ := tok_block HKW.out
      go_wp2_with fail
      exact tok_fin rfl rfl HBW.out HKW.out (by rw [HVV.out, HX.out])
    | false =>
      rw [hd] at HF
      have HD := Lib.hid hd
      clear hd
      have HB := Lib.hid (best_sign s)
      go_enter Tryd.func128, Tryd.ntmps128
      go_wp2_with fail
      refine (letter_calls _ _).mono ?_
      rintro en w1 ⟨rfl, rfl⟩
      rw [HL.out]
      go_wp2_with fail
      refine (digit_calls _ _).mono ?_
      rintro en w1 ⟨rfl, rfl⟩
      rw [HD.out]
      go_wp2_with fail
      refine (signs_calls _).mono ?_
      rintro en w2 ⟨rfl, rfl⟩
      have hW := signs_at (w.alloc zt)
      have hBW : Below w.heap.size (w.alloc zt) ((w.alloc zt).alloc (strsObj signs)) := (Below.refl _ _).alloc (by simp) _
      have hKW : (w.alloc zt).heap[w.heap.size]? = ((w.alloc zt).alloc (strsObj signs)).heap[w.heap.size]? := (Below.heap_alloc _ _ _ (by simp)).symm
      generalize (w.alloc zt).alloc (strsObj signs) = W2 at hW hBW hKW ⊢
      rw [World.size_alloc] at hW
      simp only [World.size_alloc]
      have HW := Lib.hid hW
      have HBW := Lib.hid hBW
      have HKW := Lib.hid hKW
      clear hW hBW hKW
      go_wp2_with fail
      go_loop [33, 4] (fun i b => ∃ (k : Nat) (best : Str), k ≤ 30 ∧ i = .int .i64 k ∧ b = .string (ba best) ∧ best.length ≤ 1000000 ∧ Hid (bestF s (signs.drop k) best = bestF s signs [])) (fun i b => 31 - (intOf i).toNat)
      case atStart => exact ⟨0, [], by omega, rfl, rfl, by simp, rfl⟩
      case round =>
        obtain ⟨k, best, hk, rfl, rfl, hbl, hall⟩ := hrel
        by_cases hlt : k < 30
        · obtain ⟨x, hx⟩ : ∃ x, signs[k]? = some x := ⟨_, List.getElem?_eq_getElem (show k < signs.length from hlt)⟩
          have hxl : x.length = 1 ∨ x.length = 2 := signs_len x (List.mem_of_getElem? hx)
          have hstep := bestF_step s best hx
          have hcell : W2.cell? ⟨w.heap.size + 1, k, none⟩ = some (.string (ba x)) := by
            obtain ⟨A, c, e1, _, h2⟩ := HW.out
            obtain ⟨b, off, e2, _, h3⟩ := h2 (by decide)
            injection e1 with e3 _ _
            rw [e2] at e3
            injection e3 with e3
            injection e3 with e4 e5
            have := h3 k x hx
            rw [← e4, ← e5, Nat.zero_add] at this
            exact this
          have HST := Lib.hid hstep
          clear hx hstep
          go_wp2_with fail
          refine (hasPrefix_calls _ _ _).mono ?_
          rintro en w1 ⟨rfl, rfl⟩
          rw [show (ba s).data.toList = s from rfl, show (ba x).data.toList = x from rfl]
          cases hp : Lib.hasPrefix s x with
          | false =>
            have HS2 : Hid (bestF s (signs.drop (k + 1)) best = bestF s signs []) := by
              have := HST.out
              rw [hp] at this
              simp only [Bool.false_eq_true, false_and, if_false] at this
              rw [← hall.out, this]
              rfl
            clear hp HST
            go_wp2_with fail
            go_round
            case rel => exact ⟨k + 1, best, by omega, by go_num, rfl, hbl, HS2⟩
            case measure => simp [intOf]; omega
          | true =>
            by_cases hlen : best.length < x.length
            · have HS2 : Hid (bestF s (signs.drop (k + 1)) x = bestF s signs []) := by
                have := HST.out
                rw [hp, if_pos ⟨rfl, hlen⟩] at this
                rw [← hall.out, this]
                rfl
              have e1 : decide (best.length < x.length) = true := decide_eq_true hlen
              clear hp HST
              go_wp2_with fail
              go_round
              case rel => exact ⟨k + 1, x, by omega, by go_num, rfl, by omega, HS2⟩
              case measure => simp [intOf]; omega
            · have HS2 : Hid (bestF s (signs.drop (k + 1)) best = bestF s signs []) := by
                have := HST.out
                rw [if_neg (fun h => hlen h.2)] at this
                rw [← hall.out, this]
                rfl
              have e1 : decide (best.length < x.length) = false := decide_eq_false hlen
              clear hp HST
              go_wp2_with fail
              go_round
              case rel => exact ⟨k + 1, best, by omega, by go_num, rfl, hbl, HS2⟩
              case measure => simp [intOf]; omega
        · have hk30 : k = 30 := by omega
          subst hk30
          have hbest : best = (sign s).getD [] := by rw [← HB.out, ← hall.out]; rfl
          obtain ⟨⟨c0, c1, c2⟩, cf⟩ := tok_block HKW.out
          have HBB := Lib.hid hbest
          clear hbest
          by_cases he : best = []
          · have hv : v = .agg #[.int .i64 0, .string ⟨#[]⟩, .int .i64 0] := by
              rw [← HV.out]
              have : sign s = none := by
                cases hs : sign s with
                | none => rfl
                | some t =>
                  exfalso
                  have e := HBB.out
                  rw [hs, he] at e
                  have hm : t ∈ signs := by
                    unfold sign at hs
                    split at hs
                    · rename_i h; cases hs; exact h.1
                    · split at hs
                      · rename_i h; cases hs; exact h
                      · cases hs
                  have := signs_len t hm
                  rw [← show ([] : Str) = t from e] at this
                  simp at this
              simp [firstV, HF.out, this]
            have HVV := Lib.hid hv
            subst he
            clear hv
            go_wp2_with fail
            exact tok_fin rfl rfl HBW.out HKW.out HVV.out
          · have hv : v = .agg #[.int .i64 4, .string (ba best), .int .i64 0] := by
              rw [← HV.out]
              have : sign s = some best := by
                cases hs : sign s with
                | none => exact absurd (by rw [HBB.out, hs]; rfl) he
                | some t => rw [HBB.out, hs]; rfl
              simp [firstV, HF.out, this]
            have HVV := Lib.hid hv
            have e1 : (best == []) = false := beq_eq_false_iff_ne.2 he
            clear hv he
            go_wp2_with fail
            exact tok_fin rfl rfl HBW.out HKW.out HVV.out
end
end Go.Proofs.YtdijffojppjmfaaDoor
