/- The law SyntaxExprs, walked. -/
import Derived.Test.YtdijffojppjmfaaDoorSd
import Derived.Test.YtdijffojppjmfaaDoorSy
import Derived.Test.YtdijffojppjmfaaDoorRa
import Derived.Test.YtdijffojppjmfaaDoorUo
set_option linter.unusedVariables false
set_option linter.unusedSimpArgs false
namespace Go.Proofs.YtdijffojppjmfaaDoor
open Go.RowKit Bir Go.BW
theorem parseX_some {s : Str} {x : Ex} {a k : Nat} (hs : s.length ≤ 20001) (h : parseX s = (some x, a, k)) : a = 0 ∧ k = 0 ∧ sizeE x ≤ 20001 := by
  rcases readRes_cases (gram fuel0).expr s (fun l => (gram_k _).expr l) (fun l hl => expr_out (lex_len hs hl)) with ⟨y, l, h1, h2, h3, h4⟩ | ⟨a', k', _, h4⟩
  · unfold parseX at h
    rw [h4] at h
    simp only at h
    split at h
    · cases h
    · cases h
      have := (gram_sz fuel0).expr l
      rw [h3] at this
      have h5 := lex_len hs h1
      have : sizeE x + 0 ≤ l.length := this
      exact ⟨rfl, rfl, by omega⟩
  · unfold parseX at h
    rw [h4] at h
    cases h
theorem parseX_none {s : Str} {a k : Nat} (hs : s.length ≤ 20001) (h : parseX s = (none, a, k)) : k ≠ 0 := by
  rcases readRes_cases (gram fuel0).expr s (fun l => (gram_k _).expr l) (fun l hl => expr_out (lex_len hs hl)) with ⟨y, l, h1, h2, h3, h4⟩ | ⟨a', k', hk, h4⟩
  · unfold parseX at h
    rw [h4] at h
    simp only at h
    split at h <;> cases h
    simp
  · unfold parseX at h
    rw [h4] at h
    cases h
    omega
theorem readX_val {w : World} {f : FuncId} {t : Value} {r : Option Ex × Nat × Nat} {x : Ex} {a k : Nat} (h0 : Calls Tryd.prog f #[t] w (ReadPost zE ExVal w r)) (h : r = (some x, a, k)) :
    Calls Tryd.prog f #[t] w fun en w' => Below w.heap.size w w' ∧ ∃ A0 c0, en = .returned (.tuple #[.agg #[.int .i64 x.kind, .int .i64 x.num, .string (ba x.name), .slice A0 x.kids.length c0], .int .i64 a, .int .i64 k]) ∧ ERow w' (From w.heap.size) (.slice A0 x.kids.length c0) x.kids := by
  refine (parse_some h0 h).mono ?_
  rintro en w' ⟨hb, v, rfl, kv, rfl, ha⟩
  obtain ⟨A0, c0, rfl, _⟩ := ha.slice
  exact ⟨hb, A0, c0, rfl, ha⟩
theorem sameX_zero {w : World} : Calls Tryd.prog 22 #[zE, zE] w fun en w' => en = .returned (.bool true) ∧ Below w.heap.size w w' := by
  refine ((sameX 2 (by omega)).one (.mk 0 0 [] []) (.mk 0 0 [] []) (ok := fun _ => True) (ok' := fun _ => True) (by decide) (ERow.nil' w _) (ERow.nil' w _)).mono ?_
  rintro en w1 ⟨rfl, hb⟩
  exact ⟨rfl, hb⟩
theorem zero_calls {w : World} : Calls Tryd.prog 21 #[zE] w fun en w' => en = .returned (.bool true) ∧ Below w.heap.size w w' := by
  have HB : Hid (Below w.heap.size w (w.alloc (.cells #[.int .i64 0, .int .i64 0, .string ⟨#[]⟩, .slice none 0 0] 36))) := Lib.hid ((Below.refl _ w).alloc (Nat.le_refl _) _)
  obtain ⟨q0, q1, q2, q3⟩ := cells4.new w (.int .i64 0) (.int .i64 0) (.string ⟨#[]⟩) (.slice none 0 0) 36
  go_enter Tryd.func21, Tryd.ntmps21
  go_wp2_with fail
  refine sameX_zero.mono ?_
  rintro en w1 ⟨rfl, hb⟩
  go_wp2_with fail
  go_ret
  exact ⟨rfl, HB.out.trans (hb.mono HB.out.size)⟩
set_option maxRecDepth 100000 in
set_option maxHeartbeats 8000000 in
theorem exprs_calls {w : World} (s : Str) (hs : s.length ≤ 9223372036854775807) (hlev : LevAt w w.heap.size) :
    Calls Tryd.prog 4 #[.string (ba s)] w fun en w' => en = .returned (.bool true) ∧ Below w.heap.size w w' := by
  have hlen := take_len s
  have HSH := Lib.hid (short_calls s hs w)
  generalize s.take 20001 = t at hlen HSH
  have HLN := Lib.hid hlen
  rcases hP : parseX t with ⟨r, a, k⟩
  have HL := Lib.hid hlev
  have HPE := Lib.hid hP
  clear hlev
  cases r with
  | none =>
    have hk := parseX_none hlen hP
    have e1 : ((k : Int) != 0) = true := by rw [bne_iff_ne]; omega
    have HPC := Lib.hid (parse_none (parseExpr_calls (w := w) t hlen HL.out) hP)
    clear hP hk hlen hs
    go_enter Tryd.func4, Tryd.ntmps4
    go_wp2_with fail
    refine HSH.out.mono ?_
    rintro en w0 ⟨rfl, rfl⟩
    go_wp2_with fail
    refine HPC.out.mono ?_
    rintro en w1 ⟨hb1, rfl⟩
    have HB1 := Lib.hid (hb1.alloc hb1.size (.cells #[.int .i64 0, .int .i64 0, .string ⟨#[]⟩, .slice none 0 0] 36))
    have HQ1 := Lib.hid (cells4.new w1 (.int .i64 0) (.int .i64 0) (.string ⟨#[]⟩) (.slice none 0 0) 36)
    clear hb1
    go_wp2_with fail
    generalize w1.alloc (.cells #[.int .i64 0, .int .i64 0, .string ⟨#[]⟩, .slice none 0 0] 36) = W1 at HB1 HQ1 ⊢
    refine (parse_none (rparseX_calls (w := W1) t HLN.out) HPE.out).mono ?_
    rintro en w2 ⟨hb2, rfl⟩
    have hbx := hb2.alloc hb2.size (.cells #[.int .i64 0, .int .i64 0, .string ⟨#[]⟩, .slice none 0 0] 36)
    have HB2 := Lib.hid (HB1.out.trans (hbx.mono HB1.out.size))
    have HL2 := Lib.hid (lev_below HL.out HB2.out)
    have HQ2 := Lib.hid (cells4_step HQ1.out hbx)
    clear hb2 hbx
    obtain ⟨q0, q1, q2, q3⟩ := HQ2.out
    go_wp2_with fail
    generalize w2.alloc (.cells #[.int .i64 0, .int .i64 0, .string ⟨#[]⟩, .slice none 0 0] 36) = W2 at HB2 HL2 HQ2 q0 q1 q2 q3 ⊢
    refine zero_calls.mono ?_
    rintro en w3 ⟨rfl, hb3⟩
    have HB3 := Lib.hid (HB2.out.trans (hb3.mono HB2.out.size))
    have HL3 := Lib.hid (lev_below HL2.out hb3)
    clear hb3
    go_wp2_with fail
    refine (alive_calls HL3.out).mono ?_
    rintro en w4 ⟨rfl, hb4⟩
    go_wp2_with fail
    go_ret
    exact ⟨rfl, HB3.out.trans (hb4.mono HB3.out.size)⟩
  | some x =>
    obtain ⟨rfl, rfl, hsz⟩ := parseX_some hlen hP
    have HPC := Lib.hid (readX_val (parseExpr_calls (w := w) t hlen HL.out) hP)
    have HSX := Lib.hid (sameX (2 * sizeE x) (by omega))
    have HE := Lib.hid ((sameE_eq x x).2 rfl)
    clear hP hlen hs hsz
    go_enter Tryd.func4, Tryd.ntmps4
    go_wp2_with fail
    refine HSH.out.mono ?_
    rintro en w0 ⟨rfl, rfl⟩
    go_wp2_with fail
    refine HPC.out.mono ?_
    rintro en w1 ⟨hb1, A0, c0, rfl, hra⟩
    have hbx : Below w1.heap.size w1 (w1.alloc (.cells #[.int .i64 x.kind, .int .i64 x.num, .string (ba x.name), .slice A0 x.kids.length c0] 36)) := (Below.refl _ _).alloc (Nat.le_refl _) _
    have HRA := Lib.hid (erow_below hra hbx)
    have HQ := Lib.hid (cells4.new w1 (.int .i64 x.kind) (.int .i64 x.num) (.string (ba x.name)) (.slice A0 x.kids.length c0) 36)
    have HB1 := Lib.hid (hb1.trans (hbx.mono hb1.size))
    clear hb1 hra hbx
    go_wp2_with fail
    generalize w1.alloc (.cells #[.int .i64 x.kind, .int .i64 x.num, .string (ba x.name), .slice A0 x.kids.length c0] 36) = W1 at HB1 HQ HRA ⊢
    refine (readX_val (rparseX_calls (w := W1) t HLN.out) HPE.out).mono ?_
    rintro en w2 ⟨hb2, A2, c2, rfl, hra2⟩
    have hbx : Below w2.heap.size w2 (w2.alloc (.cells #[.int .i64 x.kind, .int .i64 x.num, .string (ba x.name), .slice A2 x.kids.length c2] 36)) := (Below.refl _ _).alloc (Nat.le_refl _) _
    have hbb := hb2.trans (hbx.mono hb2.size)
    have HRA2 := Lib.hid (erow_below hra2 hbx)
    have HRA1 := Lib.hid (erow_below HRA.out hbb)
    have HQ2 := Lib.hid (cells4.new w2 (.int .i64 x.kind) (.int .i64 x.num) (.string (ba x.name)) (.slice A2 x.kids.length c2) 36)
    have HQ1 := Lib.hid (cells4_step HQ.out hbb)
    have HB2 := Lib.hid (HB1.out.trans (hbb.mono HB1.out.size))
    have HL2 := Lib.hid (lev_below HL.out HB2.out)
    clear hb2 hra2 hbx hbb
    have HSM := Lib.hid (HSX.out.one x x (Nat.le_refl _) HRA1.out HRA2.out)
    rw [HE.out] at HSM
    obtain ⟨p0, p1, p2, p3⟩ := HQ1.out
    obtain ⟨q0, q1, q2, q3⟩ := HQ2.out
    go_wp2_with fail
    generalize w2.alloc (.cells #[.int .i64 x.kind, .int .i64 x.num, .string (ba x.name), .slice A2 x.kids.length c2] 36) = W2 at HB2 HL2 HSM p0 p1 q0 q1 ⊢
    refine HSM.out.mono ?_
    rintro en w5 ⟨rfl, hb5⟩
    have HL5 := Lib.hid (lev_below HL2.out hb5)
    have HB5 := Lib.hid (HB2.out.trans (hb5.mono HB2.out.size))
    clear hb5
    go_wp2_with fail
    refine (alive_calls HL5.out).mono ?_
    rintro en w6 ⟨rfl, hb6⟩
    go_wp2_with fail
    go_ret
    exact ⟨rfl, HB5.out.trans (hb6.mono HB5.out.size)⟩
theorem exprs_row {w : World} (a : ByteArray) (h : a.size ≤ maxLen) (hlev : LevAt w w.heap.size) : Calls Tryd.prog 4 #[.string a] w fun en w' => en = .returned (.bool true) ∧ Below w.heap.size w w' := by
  have := exprs_calls (w := w) a.data.toList (by unfold maxLen at h; have h2 : a.data.toList.length = a.size := rfl; omega) hlev
  rwa [← ba_of a] at this
end Go.Proofs.YtdijffojppjmfaaDoor
