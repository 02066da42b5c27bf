/- The law SyntaxBlanks, walked. -/
import Derived.Test.YtdijffojppjmfaaDoorSd
import Derived.Test.YtdijffojppjmfaaDoorSy
import Derived.Test.YtdijffojppjmfaaDoorRa
set_option linter.unusedVariables false
set_option linter.unusedSimpArgs false
namespace Go.Proofs.YtdijffojppjmfaaDoor
open Go.RowKit Bir Go.BW
theorem parse_val {w : World} {s : Str} {x : Pr} {a k : Nat} (hs : s.length ≤ 20001) (hlev : LevAt w w.heap.size) (h : parseP s = (some x, a, k)) :
    Calls Tryd.prog 14 #[.string (ba s)] w fun en w' => Below w.heap.size w w' ∧ ∃ A0 c0 A1 c1, en = .returned (.tuple #[.agg #[.slice A0 x.arrays.length c0, .slice A1 x.funcs.length c1], .int .i64 a, .int .i64 k]) ∧ ArrRow w' (From w.heap.size) (.slice A0 x.arrays.length c0) x.arrays ∧ FnRow w' (From w.heap.size) (.slice A1 x.funcs.length c1) x.funcs := by
  refine (parse_some (parse_calls s hs hlev) h).mono ?_
  rintro en w' ⟨hb, v, rfl, av, fv, rfl, ha, hf⟩
  obtain ⟨A0, c0, rfl, _⟩ := VRow.slice ha
  obtain ⟨A1, c1, rfl, _⟩ : ∃ A c, fv = .slice A x.funcs.length c ∧ x.funcs.length ≤ c := by obtain ⟨cs, h1, _⟩ := hf; exact VRow.slice h1
  exact ⟨hb, A0, c0, A1, c1, rfl, ha, hf⟩
theorem ba_app' (s t : Str) : ba s ++ ba t = ba (s ++ t) := by apply ByteArray.ext; simp [ba]
theorem cells2_step {w1 w2 : World} {b : Nat} {a0 a1 : Value} (h : cells2 w1 b a0 a1) (hb : Below w1.heap.size w1 w2) : cells2 w2 b a0 a1 := h.ext (Ext.of_below hb (fun _ => False)) id
/-- How large a program is that was read. -/
theorem parsed_size {s : Str} {x : Pr} {a k : Nat} (hs : s.length ≤ 20001) (h : parseP s = (some x, a, k)) : x.arrays.length + x.funcs.length + sizeP x.funcs ≤ 20001 := by
  obtain ⟨h1, _, _, _, l, hl, hp⟩ := parseP_some hs h
  have := prog_sz fuel0 fuel0 [] [] l
  rw [hp] at this
  have h2 := lex_len hs hl
  have : cntP x + 0 ≤ 0 + 0 + 0 + l.length := this
  unfold cntP at this
  omega
set_option maxRecDepth 100000 in
set_option maxHeartbeats 8000000 in
theorem blanks_calls {w : World} (s : Str) (hs : s.length ≤ 9223372036854775807) (i : Nat) (hi : i < 65536) (hlev : LevAt w w.heap.size) (hpar : ∀ x a k, parseP (s.take 20001) = (some x, a, k) → ∀ f ∈ x.funcs, f.params.length ≤ 1000000) :
    Calls Tryd.prog 6 #[.string (ba s), .int .u16 i] w fun en w' => en = .returned (.bool true) ∧ Below w.heap.size w w' := by
  have hlen := take_len s
  have HSH := Lib.hid (short_calls s hs w)
  generalize s.take 20001 = t at hlen HSH hpar
  rcases hP : parseP t with ⟨r, a, k⟩
  have HL := Lib.hid hlev
  clear hlev
  cases r with
  | none =>
    have hk := parseP_none hlen hP
    have e1 : ((k : Int) != 0) = true := by rw [bne_iff_ne]; omega
    have HPC := Lib.hid (parse_gen (w := w) hlen HL.out hP)
    clear hP hpar hk
    go_enter Tryd.func6, Tryd.ntmps6
    go_wp2_with fail
    refine HSH.out.mono ?_
    rintro en w0 ⟨rfl, rfl⟩
    go_wp2_with fail
    refine HPC.out.mono ?_
    rintro en w1 ⟨hb1, A0, n0, c0, A1, n1, c1, rfl⟩
    have HB1 := Lib.hid (hb1.alloc hb1.size (.cells #[.slice A0 n0 c0, .slice A1 n1 c1] 26))
    have HL1 := Lib.hid (lev_below HL.out HB1.out)
    clear hb1
    go_wp2_with fail
    generalize w1.alloc (.cells #[.slice A0 n0 c0, .slice A1 n1 c1] 26) = W1 at HB1 HL1 ⊢
    refine (rlex_calls t (by omega) _).mono ?_
    rintro en w2 ⟨hb2, (⟨hbad, rfl⟩ | ⟨hl2, (⟨a', hbad, rfl⟩ | ⟨l, A, c, hok, rfl, hc1, hc2, htk⟩)⟩)⟩
    all_goals
      have HB2 := Lib.hid (HB1.out.trans (hb2.mono HB1.out.size))
      have HL2 := Lib.hid (lev_below HL1.out hb2)
      clear hb2
    · clear hbad
      go_wp2_with fail
      refine (alive_calls HL2.out).mono ?_
      rintro en w3 ⟨rfl, hb3⟩
      go_wp2_with fail
      go_ret
      exact ⟨rfl, HB2.out.trans (hb3.mono HB2.out.size)⟩
    · clear hbad
      go_wp2_with fail
      refine (alive_calls HL2.out).mono ?_
      rintro en w3 ⟨rfl, hb3⟩
      go_wp2_with fail
      go_ret
      exact ⟨rfl, HB2.out.trans (hb3.mono HB2.out.size)⟩
    · clear hok htk
      go_wp2_with fail
      refine (alive_calls HL2.out).mono ?_
      rintro en w3 ⟨rfl, hb3⟩
      go_wp2_with fail
      go_ret
      exact ⟨rfl, HB2.out.trans (hb3.mono HB2.out.size)⟩
  | some x =>
    obtain ⟨h20, rfl, rfl, hdp, l0, hl0, hp0⟩ := parseP_some hlen hP
    have HPA := Lib.hid (hpar x 0 0 hP)
    have HSZ := Lib.hid (parsed_size hlen hP)
    have HPC := Lib.hid (parse_val (w := w) hlen HL.out hP)
    have HP := Lib.hid hP
    have HL0 := Lib.hid hl0
    clear hP hpar hp0 hdp hl0
    go_enter Tryd.func6, Tryd.ntmps6
    go_wp2_with fail
    refine HSH.out.mono ?_
    rintro en w0 ⟨rfl, rfl⟩
    go_wp2_with fail
    refine HPC.out.mono ?_
    rintro en w1 ⟨hb1, A0, c0, A1, c1, rfl, hra, hrf⟩
    have hbx : Below w1.heap.size w1 (w1.alloc (.cells #[.slice A0 x.arrays.length c0, .slice A1 x.funcs.length c1] 26)) := (Below.refl _ _).alloc (Nat.le_refl _) _
    have HRA := Lib.hid (row_below hra hbx)
    have HRF := Lib.hid (fn_below hrf hbx)
    have HQ := Lib.hid (cells2.new w1 (.slice A0 x.arrays.length c0) (.slice A1 x.funcs.length c1) 26)
    have HB1 := Lib.hid (hb1.trans (hbx.mono hb1.size))
    have HL1 := Lib.hid (lev_below HL.out HB1.out)
    clear hb1 hra hrf hbx
    go_wp2_with fail
    generalize w1.alloc (.cells #[.slice A0 x.arrays.length c0, .slice A1 x.funcs.length c1] 26) = W1 at HB1 HL1 HQ HRA HRF ⊢
    refine (rlex_calls t (by omega) _).mono ?_
    rintro en w2 ⟨hb2, (⟨hbad, rfl⟩ | ⟨hl2, (⟨a', hbad, rfl⟩ | ⟨l, A, c, hok, rfl, hc1, hc2, htk⟩)⟩)⟩
    · omega
    · have := HL0.out
      rw [hbad] at this
      cases this
    · have HB2 := Lib.hid (HB1.out.trans (hb2.mono HB1.out.size))
      have HL2 := Lib.hid (lev_below HL1.out hb2)
      have HRA2 := Lib.hid (row_below HRA.out hb2)
      have HRF2 := Lib.hid (fn_below HRF.out hb2)
      have HQ2 := Lib.hid (cells2_step HQ.out hb2)
      have HOK := Lib.hid hok
      clear hb2 hok
      by_cases hgo : l.length = 0 ∨ 20000 < t.length + 12
      · have fin : ∀ w3, Below w2.heap.size w2 w3 → Below w.heap.size w w3 := fun w3 h => HB2.out.trans (h.mono HB2.out.size)
        by_cases hz : l.length = 0
        · have e1 : ((l.length : Int) == 0) = true := by simp [hz]
          clear htk hgo hz
          go_wp2_with fail
          refine (alive_calls HL2.out).mono ?_
          rintro en w3 ⟨rfl, hb3⟩
          go_wp2_with fail
          go_ret
          exact ⟨rfl, fin _ hb3⟩
        · have e1 : ((l.length : Int) == 0) = false := beq_eq_false_iff_ne.2 (by omega)
          have e2 : decide ((20000 : Int) < (t.length : Int) + 12) = true := by simp; omega
          clear htk hgo hz
          go_wp2_with fail
          refine (alive_calls HL2.out).mono ?_
          rintro en w3 ⟨rfl, hb3⟩
          go_wp2_with fail
          go_ret
          exact ⟨rfl, fin _ hb3⟩
      · have hl0' : 0 < l.length := by omega
        have e1 : ((l.length : Int) == 0) = false := beq_eq_false_iff_ne.2 (by omega)
        have e2 : decide ((20000 : Int) < (t.length : Int) + 12) = false := by simp; omega
        have hj : i % l.length < l.length := Nat.mod_lt _ hl0'
        have hlt12 : t.length + 12 ≤ 20000 := by omega
        obtain ⟨tb, rfl, _, htb, htk⟩ := htk.resolve_left (fun h => by rw [h] at hl0'; simp at hl0')
        have hcell := (htk (i % l.length) l[i % l.length] (List.getElem?_eq_getElem hj)).2.2
        rw [Nat.zero_add, Nat.mul_comm 3] at hcell
        have hmem : l[i % l.length] ∈ l := List.getElem_mem hj
        obtain ⟨huo, hbl⟩ := blanks_law hlen HP.out HOK.out hmem hlt12
        generalize l[i % l.length] = u at hcell huo hbl hmem
        have hj2 : ((i : Int) % (l.length : Int)).toNat = i % l.length := by omega
        have hll : l.length ≤ 20001 := lex_len hlen HOK.out
        have HBL := Lib.hid hbl
        clear hgo htk hmem hbl
        go_wp2_with fail
        have hx : (ba t).extract 0 u.off ++ { data := #[9, 47, 47, 32, 59, 32, 125, 32, 120, 10, 32, 13] } ++ (ba t).extract u.off t.length = ba (t.take u.off ++ gapS ++ t.drop u.off) := by
          rw [ba_to, show (ba t).extract u.off t.length = ba (t.drop u.off) from ba_from t u.off huo]
          show ba (t.take u.off) ++ ba gapS ++ ba (t.drop u.off) = _
          rw [ba_app', ba_app']
        have HX := Lib.hid hx
        have hn : (t.take u.off ++ gapS ++ t.drop u.off).length ≤ 20001 := by simp [gapS]; omega
        have HN := Lib.hid hn
        clear hx hn
        generalize t.take u.off ++ gapS ++ t.drop u.off = t2 at HX HN HBL
        have d1 : (u.off : Int) ≤ (t.length : Int) := by omega
        go_region_held (fun w' => True) (exact trivial)
          (first
            | (go_at_call 14; rw [HX.out]; (with_reducible refine (parse_val (w := w2.drew) HN.out (lev_below HL2.out (Below.refl _ w2).drew) HBL.out).mono ?_); rintro en w3 ⟨hb3, A2, c2, A3, c3, rfl, hra3, hrf3⟩; have HC3 := Lib.hid (And.intro hb3 (And.intro hra3 hrf3)); clear hb3 hra3 hrf3)
            | (go_at_call 14; rw [HX.out]; (with_reducible refine (parse_val (w := (w2.alloc (.cells #[.slice none 0 0, .slice none 0 0] 26)).drew) HN.out (lev_below HL2.out ((Below.refl _ w2).alloc (Nat.le_refl _) _).drew) HBL.out).mono ?_); rintro en w3 ⟨hb3, A2, c2, A3, c3, rfl, hra3, hrf3⟩; obtain ⟨q0, q1⟩ := cells2_step (w1 := (w2.alloc (.cells #[.slice none 0 0, .slice none 0 0] 26)).drew) (cells2.new w2 (.slice none 0 0) (.slice none 0 0) 26) hb3; have qf := frz_ext (w := (w2.alloc (.cells #[.slice none 0 0, .slice none 0 0] 26)).drew) (frozen_new w2 #[.slice none 0 0, .slice none 0 0] 26) (Ext.of_below hb3 (fun _ => False)) (by show w2.heap.size < _; simp [World.drew]) id; have HC3 := Lib.hid (And.intro hb3 (And.intro hra3 hrf3)); clear hb3 hra3 hrf3))
        · have hb3 := HC3.out.1
          have hbx : Below w3.heap.size w3 (w3.alloc (.cells #[.slice A2 x.arrays.length c2, .slice A3 x.funcs.length c3] 26)) := (Below.refl _ _).alloc (Nat.le_refl _) _
          have hq := cells2.new w3 (.slice A2 x.arrays.length c2) (.slice A3 x.funcs.length c3) 26
          have hqa := row_below HC3.out.2.1 hbx
          have hqf := fn_below HC3.out.2.2 hbx
          have hWX : Below w2.heap.size w2 (w3.alloc (.cells #[.slice A2 x.arrays.length c2, .slice A3 x.funcs.length c3] 26)) := ((Below.refl _ w2).drew.trans hb3).trans (hbx.mono (hb3.size))
          generalize w3.alloc (.cells #[.slice A2 x.arrays.length c2, .slice A3 x.funcs.length c3] 26) = WX at hq hqa hqf hWX ⊢
          clear hb3 hbx
          have PX := cells2_step HQ2.out hWX
          have HWX := Lib.hid hWX
          have HLX := Lib.hid (lev_below HL2.out hWX)
          have HSM := Lib.hid (same_eq x (by have := HSZ.out; omega) HPA.out (row_below HRA2.out hWX) (fn_below HRF2.out hWX) hqa hqf)
          obtain ⟨p0, p1⟩ := PX
          obtain ⟨q0, q1⟩ := hq
          clear hWX hqa hqf
          go_wp2_with fail
          refine HSM.out.mono ?_
          rintro en w5 ⟨rfl, hb5⟩
          have HL5 := Lib.hid (lev_below HLX.out hb5)
          have HB5 := Lib.hid ((HB2.out.trans (HWX.out.mono HB2.out.size)).trans (hb5.mono (by have := HB2.out.size; have := HWX.out.size; omega)))
          clear hb5
          go_wp2_with fail
          refine (alive_calls HL5.out).mono ?_
          rintro en w6 ⟨rfl, hb6⟩
          go_wp2_with fail
          go_ret
          exact ⟨rfl, HB5.out.trans (hb6.mono HB5.out.size)⟩
        all_goals
          have hb3 := HC3.out.1
          have hE := ext_set2 w3 w2.heap.size (.slice A2 x.arrays.length c2) (.slice A3 x.funcs.length c3)
          have hq := set2_cells (w := w3) (r := w2.heap.size) (.slice A2 x.arrays.length c2) (.slice A3 x.funcs.length c3) ⟨q0, q1⟩
          have hqa := VRow.keep HC3.out.2.1 hE.size (ok' := fun _ => True) fun b hb hl => ⟨hE.block b hl (by have : (w2.alloc (.cells #[.slice none 0 0, .slice none 0 0] 26)).heap.size ≤ b := hb; rw [World.size_alloc] at this; omega), trivial⟩
          have hqf := FnRow.keep HC3.out.2.2 hE.size (ok' := fun _ => True) fun b hb hl => ⟨hE.block b hl (by have : (w2.alloc (.cells #[.slice none 0 0, .slice none 0 0] 26)).heap.size ≤ b := hb; rw [World.size_alloc] at this; omega), trivial⟩
          have hWX : Below w2.heap.size w2 (set2 w3 w2.heap.size (.slice A2 x.arrays.length c2) (.slice A3 x.funcs.length c3)) := (((Below.refl _ w2).alloc (Nat.le_refl _) _).drew.trans (hb3.mono (by show w2.heap.size ≤ (w2.alloc _).heap.size; simp))).trans (hE.to_below (by have := hb3.size; have h9 : (w2.alloc (.cells #[.slice none 0 0, .slice none 0 0] 26)).heap.size ≤ w3.heap.size := this; rw [World.size_alloc] at h9; omega) (fun b hb => by omega))
          rw [show (w3.setCell ⟨w2.heap.size, 0, none⟩ (.slice A2 x.arrays.length c2)).setCell ⟨w2.heap.size, 1, none⟩ (.slice A3 x.funcs.length c3) = set2 w3 w2.heap.size (.slice A2 x.arrays.length c2) (.slice A3 x.funcs.length c3) from rfl]
          generalize set2 w3 w2.heap.size (.slice A2 x.arrays.length c2) (.slice A3 x.funcs.length c3) = WX at hq hqa hqf hWX ⊢
          clear hb3 hE q0 q1 qf
          have PX := cells2_step HQ2.out hWX
          have HWX := Lib.hid hWX
          have HLX := Lib.hid (lev_below HL2.out hWX)
          have HSM := Lib.hid (same_eq x (by have := HSZ.out; omega) HPA.out (row_below HRA2.out hWX) (fn_below HRF2.out hWX) hqa hqf)
          obtain ⟨p0, p1⟩ := PX
          obtain ⟨q0, q1⟩ := hq
          clear hWX hqa hqf
          go_wp2_with fail
          refine HSM.out.mono ?_
          rintro en w5 ⟨rfl, hb5⟩
          have HL5 := Lib.hid (lev_below HLX.out hb5)
          have HB5 := Lib.hid ((HB2.out.trans (HWX.out.mono HB2.out.size)).trans (hb5.mono (by have := HB2.out.size; have := HWX.out.size; omega)))
          clear hb5
          go_wp2_with fail
          refine (alive_calls HL5.out).mono ?_
          rintro en w6 ⟨rfl, hb6⟩
          go_wp2_with fail
          go_ret
          exact ⟨rfl, HB5.out.trans (hb6.mono HB5.out.size)⟩
theorem parsed_params {s : Str} {x : Pr} {a k : Nat} (hs : s.length ≤ 20001) (h : parseP s = (some x, a, k)) : ∀ f ∈ x.funcs, f.params.length ≤ 1000000 := by
  obtain ⟨_, _, _, _, l, hl, hp⟩ := parseP_some hs h
  exact prog_params fuel0 1000000 fuel0 [] [] l x hp (by have := lex_len hs hl; omega) (fun f hf => absurd hf List.not_mem_nil)
theorem blanks_row {w : World} (a : ByteArray) (h : a.size ≤ maxLen) (i : Nat) (hi : i < 65536) (hlev : LevAt w w.heap.size) : Calls Tryd.prog 6 #[.string a, .int .u16 i] w fun en w' => en = .returned (.bool true) ∧ Below w.heap.size w w' := by
  have := blanks_calls (w := w) a.data.toList (by unfold maxLen at h; have h2 : a.data.toList.length = a.size := rfl; omega) i hi hlev (fun x b k h => parsed_params (take_len _) h)
  rwa [← ba_of a] at this
end Go.Proofs.YtdijffojppjmfaaDoor
