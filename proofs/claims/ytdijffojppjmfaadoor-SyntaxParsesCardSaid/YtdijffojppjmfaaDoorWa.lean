/- The law SyntaxParses, walked. -/
import Derived.Test.YtdijffojppjmfaaDoorSh
import Derived.Test.YtdijffojppjmfaaDoorUq
set_option linter.unusedVariables false
set_option linter.unusedSimpArgs false
namespace Go.Proofs.YtdijffojppjmfaaDoor
open Go.RowKit Bir Go.BW
theorem LevAt.ofb {w w1 : World} (h : LevAt w w.heap.size) (hb : Below w.heap.size w w1) : LevAt w1 w1.heap.size := lev_below h hb
/-- Value of a parsed program, beside any reading contract. -/
theorem read_val {w : World} {f : FuncId} {t : Value} {r : Option Pr × Nat × Nat} {x : Pr} {a k : Nat} (h0 : Calls Tryd.prog f #[t] w (ReadPost zP PrVal w r)) (h : r = (some x, a, k)) :
    Calls Tryd.prog f #[t] w fun en w' => Below w.heap.size w w' ∧ ∃ A0 c0 A1 c1, en = .returned (.tuple #[.agg #[.slice A0 x.arrays.length c0, .slice A1 x.funcs.length c1], .int .i64 a, .int .i64 k]) ∧ ArrRow w' (From w.heap.size) (.slice A0 x.arrays.length c0) x.arrays ∧ FnRow w' (From w.heap.size) (.slice A1 x.funcs.length c1) x.funcs := by
  refine (parse_some h0 h).mono ?_
  rintro en w' ⟨hb, v, rfl, av, fv, rfl, ha, hf⟩
  obtain ⟨A0, c0, rfl, _⟩ := VRow.slice ha
  obtain ⟨A1, c1, rfl, _⟩ : ∃ A c, fv = .slice A x.funcs.length c ∧ x.funcs.length ≤ c := by obtain ⟨cs, h1, _⟩ := hf; exact VRow.slice h1
  exact ⟨hb, A0, c0, A1, c1, rfl, ha, hf⟩
theorem none_calls {w : World} : Calls Tryd.prog 16 #[zP] w fun en w' => en = .returned (.bool true) ∧ Below w.heap.size w w' := by
  have hb : Below w.heap.size w (w.alloc (.cells #[.slice none 0 0, .slice none 0 0] 26)) := (Below.refl _ w).alloc (Nat.le_refl _) _
  go_enter Tryd.func16, Tryd.ntmps16
  go_wp2_with fail
  go_ret
  exact ⟨rfl, hb⟩
set_option maxRecDepth 100000 in
set_option maxHeartbeats 8000000 in
theorem parses_calls {w : World} (s : Str) (hs : s.length ≤ 9223372036854775807) (hlev : LevAt w w.heap.size) (hpar : ∀ x a k, parseP (s.take 20001) = (some x, a, k) → ∀ f ∈ x.funcs, f.params.length ≤ 1000000) :
    Calls Tryd.prog 3 #[.string (ba s)] w fun en w' => en = .returned (.bool true) ∧ Below w.heap.size w w' := by
  have hlen := take_len s
  have HSH := Lib.hid (short_calls s hs w)
  generalize s.take 20001 = t at hlen HSH hpar
  have HLN := Lib.hid hlen
  rcases hP : parseP t with ⟨r, a, k⟩
  have HL := Lib.hid hlev
  have HPE := Lib.hid hP
  clear hlev
  cases r with
  | none =>
    have hk := parseP_none hlen hP
    have e1 : ((k : Int) != 0) = true := by rw [bne_iff_ne]; omega
    have HPC := Lib.hid (parse_none (parse_calls (w := w) t hlen HL.out) hP)
    clear hP hpar hk hlen hs
    go_enter Tryd.func3, Tryd.ntmps3
    go_wp2_with fail
    refine HSH.out.mono ?_
    rintro en w0 ⟨rfl, rfl⟩
    go_wp2_with fail
    refine HPC.out.mono ?_
    rintro en w1 ⟨hb1, rfl⟩
    have HB1 := Lib.hid (hb1.alloc hb1.size (.cells #[.slice none 0 0, .slice none 0 0] 26))
    have HQ1 := Lib.hid (cells2.new w1 (.slice none 0 0) (.slice none 0 0) 26)
    clear hb1
    go_wp2_with fail
    generalize w1.alloc (.cells #[.slice none 0 0, .slice none 0 0] 26) = W1 at HB1 HQ1 ⊢
    refine (parse_none (rparseP_calls (w := W1) t HLN.out) HPE.out).mono ?_
    rintro en w2 ⟨hb2, rfl⟩
    have hbx := hb2.alloc hb2.size (.cells #[.slice none 0 0, .slice none 0 0] 26)
    have HB2 := Lib.hid (HB1.out.trans (hbx.mono HB1.out.size))
    have HL2 := Lib.hid (lev_below HL.out HB2.out)
    have HQ2 := Lib.hid (cells2_step HQ1.out hbx)
    clear hb2 hbx
    obtain ⟨q0, q1⟩ := HQ2.out
    go_wp2_with fail
    generalize w2.alloc (.cells #[.slice none 0 0, .slice none 0 0] 26) = W2 at HB2 HL2 HQ2 q0 q1 ⊢
    refine none_calls.mono ?_
    rintro en w3 ⟨rfl, hb3⟩
    have HB3 := Lib.hid (HB2.out.trans (hb3.mono HB2.out.size))
    have HL3 := Lib.hid (lev_below HL2.out hb3)
    clear hb3
    go_wp2_with fail
    refine (alive_calls HL3.out).mono ?_
    rintro en w4 ⟨rfl, hb4⟩
    go_wp2_with fail
    go_ret
    exact ⟨rfl, HB3.out.trans (hb4.mono HB3.out.size)⟩
  | some x =>
    obtain ⟨h20, rfl, rfl, hdp, l0, hl0, hp0⟩ := parseP_some hlen hP
    have HPA := Lib.hid (hpar x 0 0 hP)
    have HSZ := Lib.hid (parsed_size hlen hP)
    have HPC := Lib.hid (read_val (parse_calls (w := w) t hlen HL.out) hP)
    clear hP hpar hp0 hdp hl0 hlen hs h20
    go_enter Tryd.func3, Tryd.ntmps3
    go_wp2_with fail
    refine HSH.out.mono ?_
    rintro en w0 ⟨rfl, rfl⟩
    go_wp2_with fail
    refine HPC.out.mono ?_
    rintro en w1 ⟨hb1, A0, c0, A1, c1, rfl, hra, hrf⟩
    have hbx : Below w1.heap.size w1 (w1.alloc (.cells #[.slice A0 x.arrays.length c0, .slice A1 x.funcs.length c1] 26)) := (Below.refl _ _).alloc (Nat.le_refl _) _
    have HRA := Lib.hid (row_below hra hbx)
    have HRF := Lib.hid (fn_below hrf hbx)
    have HQ := Lib.hid (cells2.new w1 (.slice A0 x.arrays.length c0) (.slice A1 x.funcs.length c1) 26)
    have HB1 := Lib.hid (hb1.trans (hbx.mono hb1.size))
    clear hb1 hra hrf hbx
    go_wp2_with fail
    generalize w1.alloc (.cells #[.slice A0 x.arrays.length c0, .slice A1 x.funcs.length c1] 26) = W1 at HB1 HQ HRA HRF ⊢
    refine (read_val (rparseP_calls (w := W1) t HLN.out) HPE.out).mono ?_
    rintro en w2 ⟨hb2, A2, c2, A3, c3, rfl, hra2, hrf2⟩
    have hbx : Below w2.heap.size w2 (w2.alloc (.cells #[.slice A2 x.arrays.length c2, .slice A3 x.funcs.length c3] 26)) := (Below.refl _ _).alloc (Nat.le_refl _) _
    have hbb := hb2.trans (hbx.mono hb2.size)
    have HRA2 := Lib.hid (row_below hra2 hbx)
    have HRF2 := Lib.hid (fn_below hrf2 hbx)
    have HRA1 := Lib.hid (row_below HRA.out hbb)
    have HRF1 := Lib.hid (fn_below HRF.out hbb)
    have HQ2 := Lib.hid (cells2.new w2 (.slice A2 x.arrays.length c2) (.slice A3 x.funcs.length c3) 26)
    have HQ1 := Lib.hid (cells2_step HQ.out hbb)
    have HB2 := Lib.hid (HB1.out.trans (hbb.mono HB1.out.size))
    have HL2 := Lib.hid (lev_below HL.out HB2.out)
    clear hb2 hra2 hrf2 hbx hbb
    have HSM := Lib.hid (same_eq x (by have := HSZ.out; omega) HPA.out HRA1.out HRF1.out HRA2.out HRF2.out)
    obtain ⟨p0, p1⟩ := HQ1.out
    obtain ⟨q0, q1⟩ := HQ2.out
    go_wp2_with fail
    generalize w2.alloc (.cells #[.slice A2 x.arrays.length c2, .slice A3 x.funcs.length c3] 26) = W2 at HB2 HL2 HSM p0 p1 q0 q1 ⊢
    refine HSM.out.mono ?_
    rintro en w5 ⟨rfl, hb5⟩
    have HL5 := Lib.hid (lev_below HL2.out hb5)
    have HB5 := Lib.hid (HB2.out.trans (hb5.mono HB2.out.size))
    clear hb5
    go_wp2_with fail
    refine (alive_calls HL5.out).mono ?_
    rintro en w6 ⟨rfl, hb6⟩
    go_wp2_with fail
    go_ret
    exact ⟨rfl, HB5.out.trans (hb6.mono HB5.out.size)⟩
theorem parses_row {w : World} (a : ByteArray) (h : a.size ≤ maxLen) (hlev : LevAt w w.heap.size) : Calls Tryd.prog 3 #[.string a] w fun en w' => en = .returned (.bool true) ∧ Below w.heap.size w w' := by
  have := parses_calls (w := w) a.data.toList (by unfold maxLen at h; have h2 : a.data.toList.length = a.size := rfl; omega) hlev (fun x b k h => parsed_params (take_len _) h)
  rwa [← ba_of a] at this
end Go.Proofs.YtdijffojppjmfaaDoor
