/- The law SyntaxPrefix, walked. -/
import Derived.Test.YtdijffojppjmfaaDoorSx
import Derived.Test.YtdijffojppjmfaaDoorQs
import Derived.Test.YtdijffojppjmfaaDoorRy
set_option linter.unusedVariables false
set_option linter.unusedSimpArgs false
namespace Go.Proofs.YtdijffojppjmfaaDoor
open Go.RowKit Bir Go.BW
theorem prval_slices {w w' : World} {x : Pr} {v : Value} (h : PrVal w x v w') : ∃ A0 n0 c0 A1 n1 c1, v = .agg #[.slice A0 n0 c0, .slice A1 n1 c1] := by
  obtain ⟨av, fv, rfl, ha, hf⟩ := h
  obtain ⟨A0, c0, rfl, _⟩ := VRow.slice ha
  obtain ⟨cs, h1, _⟩ := hf
  obtain ⟨A1, c1, rfl, _⟩ := VRow.slice h1
  exact ⟨_, _, _, _, _, _, rfl⟩
theorem parse_gen {w : World} {s : Str} {r : Option Pr} {a k : Nat} (hs : s.length ≤ 20001) (hlev : LevAt w w.heap.size) (h : parseP s = (r, a, k)) :
    Calls Tryd.prog 14 #[.string (ba s)] w fun en w' => Below w.heap.size w w' ∧ ∃ A0 n0 c0 A1 n1 c1, en = .returned (.tuple #[.agg #[.slice A0 n0 c0, .slice A1 n1 c1], .int .i64 a, .int .i64 k]) := by
  refine (parse_calls s hs hlev).mono ?_
  rw [h]
  rintro en w' ⟨hb, v, he, hv⟩
  refine ⟨hb, ?_⟩
  cases r with
  | none =>
    rw [show v = zP from hv] at he
    exact ⟨_, _, _, _, _, _, he⟩
  | some x =>
    obtain ⟨A0, n0, c0, A1, n1, c1, rfl⟩ := prval_slices hv
    exact ⟨_, _, _, _, _, _, he⟩
theorem take_len (s : Str) : (s.take 20001).length ≤ 20001 := by rw [List.length_take]; omega
set_option maxRecDepth 100000 in
set_option maxHeartbeats 4000000 in
theorem prefix_calls {w : World} (s : Str) (hs : s.length ≤ 9223372036854775807) (hlev : LevAt w w.heap.size) : Calls Tryd.prog 8 #[.string (ba s)] w fun en w' => en = .returned (.bool true) ∧ Below w.heap.size w w' := by
  have hlen := take_len s
  have HSH := Lib.hid (short_calls s hs w)
  generalize s.take 20001 = t at hlen HSH
  rcases hP : parseP t with ⟨r, a, k⟩
  have HL := Lib.hid hlev
  have HP := Lib.hid hP
  clear hlev hP
  have HPC := Lib.hid (parse_gen (w := w) hlen HL.out HP.out)
  by_cases hgo : k = 4 ∧ a ≠ 0 ∧ a ≤ t.length
  · obtain ⟨rfl, ha0, hal⟩ := hgo
    have e1 : ((a : Int) == 0) = false := beq_eq_false_iff_ne.2 (by omega)
    have e2 : decide (t.length < a) = false := decide_eq_false (by omega)
    go_enter Tryd.func8, Tryd.ntmps8
    go_wp2_with fail
    refine HSH.out.mono ?_
    rintro en w0 ⟨rfl, rfl⟩
    go_wp2_with fail
    refine HPC.out.mono ?_
    rintro en w1 ⟨hb1, A0, n0, c0, A1, n1, c1, rfl⟩
    have HB1 := Lib.hid (hb1.alloc hb1.size (.cells #[.slice A0 n0 c0, .slice A1 n1 c1] 26))
    have HL1 := Lib.hid (lev_below HL.out HB1.out)
    clear hb1
    go_wp2_with fail
    generalize w1.alloc (.cells #[.slice A0 n0 c0, .slice A1 n1 c1] 26) = W1 at HB1 HL1 ⊢
    refine (rlex_calls t (by omega) _).mono ?_
    rintro en w2 ⟨hb2, (⟨hbad, rfl⟩ | ⟨hl2, (⟨a', hbad, rfl⟩ | ⟨l, A, c, hok, rfl, hc1, hc2, htk⟩)⟩)⟩
    · have HB2 := Lib.hid (HB1.out.trans (hb2.mono HB1.out.size))
      have HL2 := Lib.hid (lev_below HL1.out hb2)
      clear hb2 hbad
      go_wp2_with fail
      refine (alive_calls HL2.out).mono ?_
      rintro en w3 ⟨rfl, hb3⟩
      go_wp2_with fail
      go_ret
      exact ⟨rfl, HB2.out.trans (hb3.mono HB2.out.size)⟩
    · have HB2 := Lib.hid (HB1.out.trans (hb2.mono HB1.out.size))
      have HL2 := Lib.hid (lev_below HL1.out hb2)
      clear hb2 hbad
      go_wp2_with fail
      refine (alive_calls HL2.out).mono ?_
      rintro en w3 ⟨rfl, hb3⟩
      go_wp2_with fail
      go_ret
      exact ⟨rfl, HB2.out.trans (hb3.mono HB2.out.size)⟩
    · have HB2 := Lib.hid (HB1.out.trans (hb2.mono HB1.out.size))
      have HL2 := Lib.hid (lev_below HL1.out hb2)
      have hx : (ba t).extract 0 a = ba (t.take a) := ba_to t a
      have HX := Lib.hid hx
      obtain ⟨r', n, g, hp', hg⟩ := prefix_law hlen HP.out hal hok
      have HP' := Lib.hid hp'
      have hll : (t.take a).length ≤ 20001 := by rw [List.length_take]; omega
      have HLL := Lib.hid hll
      clear hb2 hok htk hx hp' hll
      go_wp2_with fail
      rw [HX.out]
      generalize t.take a = u at HP' HLL hg ⊢
      refine (parse_gen (w := w2) HLL.out HL2.out HP'.out).mono ?_
      rintro en w3 ⟨hb3, A2, n2, c2, A3, n3, c3, rfl⟩
      have HB3 := Lib.hid ((HB2.out.trans (hb3.mono HB2.out.size)).alloc (by have := HB2.out.size; have := hb3.size; omega) (.cells #[.slice A2 n2 c2, .slice A3 n3 c3] 26))
      have HL3 := Lib.hid (lev_below HL.out HB3.out)
      clear hb3
      rcases hg with rfl | ⟨rfl, rfl⟩ | ⟨rfl, rfl⟩
      all_goals
        go_wp2_with fail
        refine (alive_calls HL3.out).mono ?_
        rintro en w4 ⟨rfl, hb4⟩
        go_wp2_with fail
        go_ret
        exact ⟨rfl, HB3.out.trans (hb4.mono HB3.out.size)⟩
  · by_cases hk : k = 4
    · subst hk
      by_cases ha : a = 0
      · have e1 : ((a : Int) == 0) = true := by simp [ha]
        clear hgo ha
        go_enter Tryd.func8, Tryd.ntmps8
        go_wp2_with fail
        refine HSH.out.mono ?_
        rintro en w0 ⟨rfl, rfl⟩
        go_wp2_with fail
        refine HPC.out.mono ?_
        rintro en w1 ⟨hb1, A0, n0, c0, A1, n1, c1, rfl⟩
        have HB1 := Lib.hid (hb1.alloc hb1.size (.cells #[.slice A0 n0 c0, .slice A1 n1 c1] 26))
        have HL1 := Lib.hid (lev_below HL.out HB1.out)
        clear hb1
        go_wp2_with fail
        refine (alive_calls HL1.out).mono ?_
        rintro en w4 ⟨rfl, hb4⟩
        go_wp2_with fail
        go_ret
        exact ⟨rfl, HB1.out.trans (hb4.mono HB1.out.size)⟩
      · have e1 : ((a : Int) == 0) = false := beq_eq_false_iff_ne.2 (by omega)
        have e2 : decide (t.length < a) = true := by
          rw [decide_eq_true_eq]
          rcases Nat.lt_or_ge t.length a with h | h
          · exact h
          · exact absurd ⟨rfl, ha, h⟩ hgo
        clear hgo ha
        go_enter Tryd.func8, Tryd.ntmps8
        go_wp2_with fail
        refine HSH.out.mono ?_
        rintro en w0 ⟨rfl, rfl⟩
        go_wp2_with fail
        refine HPC.out.mono ?_
        rintro en w1 ⟨hb1, A0, n0, c0, A1, n1, c1, rfl⟩
        have HB1 := Lib.hid (hb1.alloc hb1.size (.cells #[.slice A0 n0 c0, .slice A1 n1 c1] 26))
        have HL1 := Lib.hid (lev_below HL.out HB1.out)
        clear hb1
        go_wp2_with fail
        refine (alive_calls HL1.out).mono ?_
        rintro en w4 ⟨rfl, hb4⟩
        go_wp2_with fail
        go_ret
        exact ⟨rfl, HB1.out.trans (hb4.mono HB1.out.size)⟩
    · have e0 : ((k : Int) != 4) = true := by rw [bne_iff_ne]; omega
      clear hgo hk
      go_enter Tryd.func8, Tryd.ntmps8
      go_wp2_with fail
      refine HSH.out.mono ?_
      rintro en w0 ⟨rfl, rfl⟩
      go_wp2_with fail
      refine HPC.out.mono ?_
      rintro en w1 ⟨hb1, A0, n0, c0, A1, n1, c1, rfl⟩
      have HB1 := Lib.hid (hb1.alloc hb1.size (.cells #[.slice A0 n0 c0, .slice A1 n1 c1] 26))
      have HL1 := Lib.hid (lev_below HL.out HB1.out)
      clear hb1
      go_wp2_with fail
      refine (alive_calls HL1.out).mono ?_
      rintro en w4 ⟨rfl, hb4⟩
      go_wp2_with fail
      go_ret
      exact ⟨rfl, HB1.out.trans (hb4.mono HB1.out.size)⟩
theorem ba_of (a : ByteArray) : a = ba a.data.toList := by
  apply ByteArray.ext
  simp [ba]
theorem prefix_row {w : World} (a : ByteArray) (h : a.size ≤ maxLen) (hlev : LevAt w w.heap.size) : Calls Tryd.prog 8 #[.string a] w fun en w' => en = .returned (.bool true) ∧ Below w.heap.size w w' := by
  have := prefix_calls (w := w) a.data.toList (by unfold maxLen at h; have h2 : a.data.toList.length = a.size := rfl; omega) hlev
  rwa [← ba_of a] at this
end Go.Proofs.YtdijffojppjmfaaDoor
