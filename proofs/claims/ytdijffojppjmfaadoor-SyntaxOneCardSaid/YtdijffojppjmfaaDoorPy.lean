/- The parser's statements that begin with a word, walked. -/
import Derived.Test.YtdijffojppjmfaaDoorPx
set_option linter.unusedVariables false
set_option linter.unusedSimpArgs false
namespace Go.Proofs.YtdijffojppjmfaaDoor
open Go.RowKit Bir Go.BW Go.Proofs.YtdijffojppjmfaaDoorW.PrintLast
section
variable {w : World} {pb tb e n off : Nat} {l : List Tok}
theorem stmt_print_worded (w1 : World) : Calls Tryd.prog 154 #[.string ⟨#[112, 114, 105, 110, 116]⟩] (w1.alloc (.cells #[.int .i64 2, .string ⟨#[112, 114, 105, 110, 116]⟩, .int .i64 off] 49)) fun en w' => en = .returned (.int .i64 7) ∧ w' = w1.alloc (.cells #[.int .i64 2, .string ⟨#[112, 114, 105, 110, 116]⟩, .int .i64 off] 49) := by
  generalize w1.alloc (.cells #[.int .i64 2, .string ⟨#[112, 114, 105, 110, 116]⟩, .int .i64 off] 49) = w2
  go_enter Tryd.func154, Tryd.ntmps154
  go_wp2_with fail
  go_ret
  exact ⟨rfl, rfl⟩
theorem stmt_print (ih : PAll n) (iq : QAll n) (h : PSt w pb tb e (⟨2, [112, 114, 105, 110, 116], off⟩ :: l)) (hne : stmtF (gram n) (⟨2, [112, 114, 105, 110, 116], off⟩ :: l) ≠ .out) : Calls Tryd.prog 130 #[pp pb] w (SPost w pb tb e (stmtF (gram n) (⟨2, [112, 114, 105, 110, 116], off⟩ :: l))) := by
  generalize hr : stmtF (gram n) (⟨2, [112, 114, 105, 110, 116], off⟩ :: l) = r at hne ⊢
  have HI := Lib.hid ih
  have HQ := Lib.hid iq
  have HN := Lib.hid hne
  have HR := Lib.hid hr
  clear ih iq hne hr
  have HL := Lib.hid (Pre.start h)
  go_enter Tryd.func130, Tryd.ntmps130
  go_wp2_with fail
  refine (next_cons HL.out.st).mono ?_
  rintro en w1 ⟨rfl, hb1⟩
  replace HL := Lib.hid ((HL.out.below hb1).alloc (.cells #[.int .i64 2, .string ⟨#[112, 114, 105, 110, 116]⟩, .int .i64 off] 49))
  clear hb1
  simp only [show ba [112, 114, 105, 110, 116] = ⟨#[112, 114, 105, 110, 116]⟩ from rfl]
  go_wp2_with fail
  refine (stmt_print_worded w1).mono ?_
  rintro en w1' ⟨rfl, rfl⟩
  have hd : stmtF (gram n) (⟨2, [112, 114, 105, 110, 116], off⟩ :: l) = plainF (gram n) 7 l := by simp [stmtF, kindOf, is]
  rw [hd] at HR
  clear hd
  go_wp2_with fail
  unfold plainF at HR
  refine (must_yes HL.out.st [112, 114, 105, 110, 116] (by simp [is])).mono ?_
  rintro en w2 ⟨rfl, hx, h1⟩
  replace HL := Lib.hid (HL.out.move hx h1)
  clear hx h1
  simp only [List.tail_cons] at HL
  obtain ⟨⟨s0, s1, s2, s3, s4⟩, sf, z1, z2, z3, z4⟩ := HL.out.facts
  go_wp2_with fail
  clear s0 s1 s2 s3 s4 sf z1 z2 z3 z4
  rcases hy : (gram n).expr l with _ | ⟨l2, k2⟩ | ⟨yw3, lw3⟩
  · exact absurd (by rw [← HR.out, hy] <;> rfl) HN.out
  · have HF : r = .err l2 k2 := by rw [← HR.out, hy] <;> rfl
    refine (EPost.bad (HI.out.expr HL.out.st (by rw [hy]; simp)) hy).mono ?_
    rintro en w3 ⟨rfl, hx⟩
    exact ⟨rfl, HL.out.panic hx HF⟩
  ·
    have HR' := HR.out
    simp only [R.bind, must, hy, if_true, Bool.false_eq_true, if_false, true_and, and_true] at HR'
    replace HR := Lib.hid HR'
    clear HR'
    refine (EPost.got (HI.out.expr HL.out.st (by rw [hy]; simp)) hy).mono ?_
    rintro en w3 ⟨kv, rfl, hr, hx, h1⟩
    obtain ⟨Aw3, cw3, rfl, _⟩ := hr.slice
    clear hy
    replace HL := Lib.hid (HL.out.lit1 hr hx h1 7 [])
    clear hr hx h1
    have hq1 := HL.out.facts.2.2.2.2.2.2.1
    go_wp2_with fail
    cases hm : is [59] lw3 with
    | false =>
      have HF : r = .err lw3 4 := by rw [← HR.out]; simp [must, hm, R.bind]
      refine (must_no HL.out.st [59] hm).mono ?_
      rintro en w4 ⟨rfl, hb⟩
      exact ⟨rfl, HL.out.panic (.of_below hb _) HF⟩
    | true =>
      have HR' := HR.out
      simp only [R.bind, must, hm, if_true, Bool.false_eq_true, if_false, true_and, and_true] at HR'
      replace HR := Lib.hid HR'
      clear HR'
      refine (must_yes HL.out.st [59] hm).mono ?_
      rintro en w4 ⟨rfl, hx, h1⟩
      replace HL := Lib.hid (HL.out.move hx h1)
      clear hx h1 hm
      generalize lw3.tail = mw4 at HL HR
      have HF := HR.out.symm
      have HL9 := HL
      clear HL
      obtain ⟨⟨c0, c1, c2, c3, c4⟩, cf, ⟨s0, s1, s2, s3, s4⟩, sf, z1, z2, z3, z4⟩ := HL9.out.facts
      go_wp2_with fail
      rw [HF]
      exact HL9.out.fin rfl rfl h
theorem stmt_throw_worded (w1 : World) : Calls Tryd.prog 154 #[.string ⟨#[116, 104, 114, 111, 119]⟩] (w1.alloc (.cells #[.int .i64 2, .string ⟨#[116, 104, 114, 111, 119]⟩, .int .i64 off] 49)) fun en w' => en = .returned (.int .i64 8) ∧ w' = w1.alloc (.cells #[.int .i64 2, .string ⟨#[116, 104, 114, 111, 119]⟩, .int .i64 off] 49) := by
  generalize w1.alloc (.cells #[.int .i64 2, .string ⟨#[116, 104, 114, 111, 119]⟩, .int .i64 off] 49) = w2
  go_enter Tryd.func154, Tryd.ntmps154
  go_wp2_with fail
  go_ret
  exact ⟨rfl, rfl⟩
theorem stmt_throw (ih : PAll n) (iq : QAll n) (h : PSt w pb tb e (⟨2, [116, 104, 114, 111, 119], off⟩ :: l)) (hne : stmtF (gram n) (⟨2, [116, 104, 114, 111, 119], off⟩ :: l) ≠ .out) : Calls Tryd.prog 130 #[pp pb] w (SPost w pb tb e (stmtF (gram n) (⟨2, [116, 104, 114, 111, 119], off⟩ :: l))) := by
  generalize hr : stmtF (gram n) (⟨2, [116, 104, 114, 111, 119], off⟩ :: l) = r at hne ⊢
  have HI := Lib.hid ih
  have HQ := Lib.hid iq
  have HN := Lib.hid hne
  have HR := Lib.hid hr
  clear ih iq hne hr
  have HL := Lib.hid (Pre.start h)
  go_enter Tryd.func130, Tryd.ntmps130
  go_wp2_with fail
  refine (next_cons HL.out.st).mono ?_
  rintro en w1 ⟨rfl, hb1⟩
  replace HL := Lib.hid ((HL.out.below hb1).alloc (.cells #[.int .i64 2, .string ⟨#[116, 104, 114, 111, 119]⟩, .int .i64 off] 49))
  clear hb1
  simp only [show ba [116, 104, 114, 111, 119] = ⟨#[116, 104, 114, 111, 119]⟩ from rfl]
  go_wp2_with fail
  refine (stmt_throw_worded w1).mono ?_
  rintro en w1' ⟨rfl, rfl⟩
  have hd : stmtF (gram n) (⟨2, [116, 104, 114, 111, 119], off⟩ :: l) = plainF (gram n) 8 l := by simp [stmtF, kindOf, is]
  rw [hd] at HR
  clear hd
  go_wp2_with fail
  unfold plainF at HR
  refine (must_yes HL.out.st [116, 104, 114, 111, 119] (by simp [is])).mono ?_
  rintro en w2 ⟨rfl, hx, h1⟩
  replace HL := Lib.hid (HL.out.move hx h1)
  clear hx h1
  simp only [List.tail_cons] at HL
  obtain ⟨⟨s0, s1, s2, s3, s4⟩, sf, z1, z2, z3, z4⟩ := HL.out.facts
  go_wp2_with fail
  clear s0 s1 s2 s3 s4 sf z1 z2 z3 z4
  rcases hy : (gram n).expr l with _ | ⟨l2, k2⟩ | ⟨yw3, lw3⟩
  · exact absurd (by rw [← HR.out, hy] <;> rfl) HN.out
  · have HF : r = .err l2 k2 := by rw [← HR.out, hy] <;> rfl
    refine (EPost.bad (HI.out.expr HL.out.st (by rw [hy]; simp)) hy).mono ?_
    rintro en w3 ⟨rfl, hx⟩
    exact ⟨rfl, HL.out.panic hx HF⟩
  ·
    have HR' := HR.out
    simp only [R.bind, must, hy, if_true, Bool.false_eq_true, if_false, true_and, and_true] at HR'
    replace HR := Lib.hid HR'
    clear HR'
    refine (EPost.got (HI.out.expr HL.out.st (by rw [hy]; simp)) hy).mono ?_
    rintro en w3 ⟨kv, rfl, hr, hx, h1⟩
    obtain ⟨Aw3, cw3, rfl, _⟩ := hr.slice
    clear hy
    replace HL := Lib.hid (HL.out.lit1 hr hx h1 8 [])
    clear hr hx h1
    have hq1 := HL.out.facts.2.2.2.2.2.2.1
    go_wp2_with fail
    cases hm : is [59] lw3 with
    | false =>
      have HF : r = .err lw3 4 := by rw [← HR.out]; simp [must, hm, R.bind]
      refine (must_no HL.out.st [59] hm).mono ?_
      rintro en w4 ⟨rfl, hb⟩
      exact ⟨rfl, HL.out.panic (.of_below hb _) HF⟩
    | true =>
      have HR' := HR.out
      simp only [R.bind, must, hm, if_true, Bool.false_eq_true, if_false, true_and, and_true] at HR'
      replace HR := Lib.hid HR'
      clear HR'
      refine (must_yes HL.out.st [59] hm).mono ?_
      rintro en w4 ⟨rfl, hx, h1⟩
      replace HL := Lib.hid (HL.out.move hx h1)
      clear hx h1 hm
      generalize lw3.tail = mw4 at HL HR
      have HF := HR.out.symm
      have HL9 := HL
      clear HL
      obtain ⟨⟨c0, c1, c2, c3, c4⟩, cf, ⟨s0, s1, s2, s3, s4⟩, sf, z1, z2, z3, z4⟩ := HL9.out.facts
      go_wp2_with fail
      rw [HF]
      exact HL9.out.fin rfl rfl h
theorem stmt_return_worded (w1 : World) : Calls Tryd.prog 154 #[.string ⟨#[114, 101, 116, 117, 114, 110]⟩] (w1.alloc (.cells #[.int .i64 2, .string ⟨#[114, 101, 116, 117, 114, 110]⟩, .int .i64 off] 49)) fun en w' => en = .returned (.int .i64 10) ∧ w' = w1.alloc (.cells #[.int .i64 2, .string ⟨#[114, 101, 116, 117, 114, 110]⟩, .int .i64 off] 49) := by
  generalize w1.alloc (.cells #[.int .i64 2, .string ⟨#[114, 101, 116, 117, 114, 110]⟩, .int .i64 off] 49) = w2
  go_enter Tryd.func154, Tryd.ntmps154
  go_wp2_with fail
  go_ret
  exact ⟨rfl, rfl⟩
theorem stmt_return (ih : PAll n) (iq : QAll n) (h : PSt w pb tb e (⟨2, [114, 101, 116, 117, 114, 110], off⟩ :: l)) (hne : stmtF (gram n) (⟨2, [114, 101, 116, 117, 114, 110], off⟩ :: l) ≠ .out) : Calls Tryd.prog 130 #[pp pb] w (SPost w pb tb e (stmtF (gram n) (⟨2, [114, 101, 116, 117, 114, 110], off⟩ :: l))) := by
  generalize hr : stmtF (gram n) (⟨2, [114, 101, 116, 117, 114, 110], off⟩ :: l) = r at hne ⊢
  have HI := Lib.hid ih
  have HQ := Lib.hid iq
  have HN := Lib.hid hne
  have HR := Lib.hid hr
  clear ih iq hne hr
  have HL := Lib.hid (Pre.start h)
  go_enter Tryd.func130, Tryd.ntmps130
  go_wp2_with fail
  refine (next_cons HL.out.st).mono ?_
  rintro en w1 ⟨rfl, hb1⟩
  replace HL := Lib.hid ((HL.out.below hb1).alloc (.cells #[.int .i64 2, .string ⟨#[114, 101, 116, 117, 114, 110]⟩, .int .i64 off] 49))
  clear hb1
  simp only [show ba [114, 101, 116, 117, 114, 110] = ⟨#[114, 101, 116, 117, 114, 110]⟩ from rfl]
  go_wp2_with fail
  refine (stmt_return_worded w1).mono ?_
  rintro en w1' ⟨rfl, rfl⟩
  have hd : stmtF (gram n) (⟨2, [114, 101, 116, 117, 114, 110], off⟩ :: l) = plainF (gram n) 10 l := by simp [stmtF, kindOf, is]
  rw [hd] at HR
  clear hd
  go_wp2_with fail
  unfold plainF at HR
  refine (must_yes HL.out.st [114, 101, 116, 117, 114, 110] (by simp [is])).mono ?_
  rintro en w2 ⟨rfl, hx, h1⟩
  replace HL := Lib.hid (HL.out.move hx h1)
  clear hx h1
  simp only [List.tail_cons] at HL
  obtain ⟨⟨s0, s1, s2, s3, s4⟩, sf, z1, z2, z3, z4⟩ := HL.out.facts
  go_wp2_with fail
  clear s0 s1 s2 s3 s4 sf z1 z2 z3 z4
  rcases hy : (gram n).expr l with _ | ⟨l2, k2⟩ | ⟨yw3, lw3⟩
  · exact absurd (by rw [← HR.out, hy] <;> rfl) HN.out
  · have HF : r = .err l2 k2 := by rw [← HR.out, hy] <;> rfl
    refine (EPost.bad (HI.out.expr HL.out.st (by rw [hy]; simp)) hy).mono ?_
    rintro en w3 ⟨rfl, hx⟩
    exact ⟨rfl, HL.out.panic hx HF⟩
  ·
    have HR' := HR.out
    simp only [R.bind, must, hy, if_true, Bool.false_eq_true, if_false, true_and, and_true] at HR'
    replace HR := Lib.hid HR'
    clear HR'
    refine (EPost.got (HI.out.expr HL.out.st (by rw [hy]; simp)) hy).mono ?_
    rintro en w3 ⟨kv, rfl, hr, hx, h1⟩
    obtain ⟨Aw3, cw3, rfl, _⟩ := hr.slice
    clear hy
    replace HL := Lib.hid (HL.out.lit1 hr hx h1 10 [])
    clear hr hx h1
    have hq1 := HL.out.facts.2.2.2.2.2.2.1
    go_wp2_with fail
    cases hm : is [59] lw3 with
    | false =>
      have HF : r = .err lw3 4 := by rw [← HR.out]; simp [must, hm, R.bind]
      refine (must_no HL.out.st [59] hm).mono ?_
      rintro en w4 ⟨rfl, hb⟩
      exact ⟨rfl, HL.out.panic (.of_below hb _) HF⟩
    | true =>
      have HR' := HR.out
      simp only [R.bind, must, hm, if_true, Bool.false_eq_true, if_false, true_and, and_true] at HR'
      replace HR := Lib.hid HR'
      clear HR'
      refine (must_yes HL.out.st [59] hm).mono ?_
      rintro en w4 ⟨rfl, hx, h1⟩
      replace HL := Lib.hid (HL.out.move hx h1)
      clear hx h1 hm
      generalize lw3.tail = mw4 at HL HR
      have HF := HR.out.symm
      have HL9 := HL
      clear HL
      obtain ⟨⟨c0, c1, c2, c3, c4⟩, cf, ⟨s0, s1, s2, s3, s4⟩, sf, z1, z2, z3, z4⟩ := HL9.out.facts
      go_wp2_with fail
      rw [HF]
      exact HL9.out.fin rfl rfl h
theorem stmt_let_worded (w1 : World) : Calls Tryd.prog 154 #[.string ⟨#[108, 101, 116]⟩] (w1.alloc (.cells #[.int .i64 2, .string ⟨#[108, 101, 116]⟩, .int .i64 off] 49)) fun en w' => en = .returned (.int .i64 0) ∧ w' = w1.alloc (.cells #[.int .i64 2, .string ⟨#[108, 101, 116]⟩, .int .i64 off] 49) := by
  generalize w1.alloc (.cells #[.int .i64 2, .string ⟨#[108, 101, 116]⟩, .int .i64 off] 49) = w2
  go_enter Tryd.func154, Tryd.ntmps154
  go_wp2_with fail
  go_ret
  exact ⟨rfl, rfl⟩
theorem stmt_let (ih : PAll n) (iq : QAll n) (h : PSt w pb tb e (⟨2, [108, 101, 116], off⟩ :: l)) (hne : stmtF (gram n) (⟨2, [108, 101, 116], off⟩ :: l) ≠ .out) : Calls Tryd.prog 130 #[pp pb] w (SPost w pb tb e (stmtF (gram n) (⟨2, [108, 101, 116], off⟩ :: l))) := by
  generalize hr : stmtF (gram n) (⟨2, [108, 101, 116], off⟩ :: l) = r at hne ⊢
  have HI := Lib.hid ih
  have HQ := Lib.hid iq
  have HN := Lib.hid hne
  have HR := Lib.hid hr
  clear ih iq hne hr
  have HL := Lib.hid (Pre.start h)
  go_enter Tryd.func130, Tryd.ntmps130
  go_wp2_with fail
  refine (next_cons HL.out.st).mono ?_
  rintro en w1 ⟨rfl, hb1⟩
  replace HL := Lib.hid ((HL.out.below hb1).alloc (.cells #[.int .i64 2, .string ⟨#[108, 101, 116]⟩, .int .i64 off] 49))
  clear hb1
  simp only [show ba [108, 101, 116] = ⟨#[108, 101, 116]⟩ from rfl]
  go_wp2_with fail
  refine (stmt_let_worded w1).mono ?_
  rintro en w1' ⟨rfl, rfl⟩
  have hd : stmtF (gram n) (⟨2, [108, 101, 116], off⟩ :: l) = (name l).bind fun s l1 => setF (gram n) 1 s l1 := by simp [stmtF, kindOf, is]
  rw [hd] at HR
  clear hd
  go_wp2_with fail
  refine (must_yes HL.out.st [108, 101, 116] (by simp [is])).mono ?_
  rintro en w2 ⟨rfl, hx, h1⟩
  replace HL := Lib.hid (HL.out.move hx h1)
  clear hx h1
  simp only [List.tail_cons] at HL
  obtain ⟨⟨s0, s1, s2, s3, s4⟩, sf, z1, z2, z3, z4⟩ := HL.out.facts
  go_wp2_with fail
  clear s0 s1 s2 s3 s4 sf z1 z2 z3 z4
  rcases name_cases l with ⟨k, hy, hk⟩ | ⟨tw3, rw3, rfl, hk, hk2, hy⟩
  · have HF : r = .err l k := by rw [← HR.out]; simp [hy, R.bind]
    refine (name_bad HL.out.st hk).mono ?_
    rintro en w3 ⟨rfl, hx⟩
    exact ⟨rfl, HL.out.panic hx HF⟩
  ·
    have HR' := HR.out
    simp only [R.bind, must, hy, if_true, Bool.false_eq_true, if_false, true_and, and_true] at HR'
    replace HR := Lib.hid HR'
    clear HR'
    refine (name_yes HL.out.st hk hk2).mono ?_
    rintro en w3 ⟨rfl, hx, h1⟩
    replace HL := Lib.hid (HL.out.move hx h1)
    clear hx h1 hy hk hk2
    generalize tw3.text = xw3 at HL HR
    obtain ⟨⟨s0, s1, s2, s3, s4⟩, sf, z1, z2, z3, z4⟩ := HL.out.facts
    go_wp2_with fail
    clear s0 s1 s2 s3 s4 sf z1 z2 z3 z4
    rcases hy : setF (gram n) 1 xw3 rw3 with _ | ⟨l2, k2⟩ | ⟨y, l2⟩
    · exact absurd (by rw [← HR.out, hy]) HN.out
    · have HF : r = .err l2 k2 := by rw [← HR.out, hy]
      refine (SPost.bad (set_calls HI.out HL.out.st 1 xw3 (by rw [hy]; simp)) hy).mono ?_
      rintro en w4 ⟨rfl, hx⟩
      exact ⟨rfl, HL.out.panic hx HF⟩
    · have HF : r = .ok y l2 := by rw [← HR.out, hy]
      refine (SPost.got (set_calls HI.out HL.out.st 1 xw3 (by rw [hy]; simp)) hy).mono ?_
      rintro en w4 ⟨ev, bv, lv, rfl, he, hbb, hl, hx, h1⟩
      obtain ⟨A1, c1, rfl, _⟩ := he.slice
      obtain ⟨A2, c2, rfl, _⟩ := hbb.slice
      obtain ⟨A3, c3, rfl, _⟩ := hl.slice
      have HE := Lib.hid (HL.out.erow he)
      have HB := Lib.hid (HL.out.srow hbb)
      have HLL := Lib.hid (HL.out.srow hl)
      replace HL := Lib.hid (HL.out.move hx h1)
      clear hx h1 he hbb hl hy
      obtain ⟨⟨s0, s1, s2, s3, s4⟩, sf, z1, z2, z3, z4⟩ := HL.out.facts
      go_wp2_with fail
      rw [HF]
      exact HL.out.fin rfl rfl HE.out HB.out HLL.out h
theorem stmt_if_worded (w1 : World) : Calls Tryd.prog 154 #[.string ⟨#[105, 102]⟩] (w1.alloc (.cells #[.int .i64 2, .string ⟨#[105, 102]⟩, .int .i64 off] 49)) fun en w' => en = .returned (.int .i64 0) ∧ w' = w1.alloc (.cells #[.int .i64 2, .string ⟨#[105, 102]⟩, .int .i64 off] 49) := by
  generalize w1.alloc (.cells #[.int .i64 2, .string ⟨#[105, 102]⟩, .int .i64 off] 49) = w2
  go_enter Tryd.func154, Tryd.ntmps154
  go_wp2_with fail
  go_ret
  exact ⟨rfl, rfl⟩
theorem stmt_if (ih : PAll n) (iq : QAll n) (h : PSt w pb tb e (⟨2, [105, 102], off⟩ :: l)) (hne : stmtF (gram n) (⟨2, [105, 102], off⟩ :: l) ≠ .out) : Calls Tryd.prog 130 #[pp pb] w (SPost w pb tb e (stmtF (gram n) (⟨2, [105, 102], off⟩ :: l))) := by
  generalize hr : stmtF (gram n) (⟨2, [105, 102], off⟩ :: l) = r at hne ⊢
  have HI := Lib.hid ih
  have HQ := Lib.hid iq
  have HN := Lib.hid hne
  have HR := Lib.hid hr
  clear ih iq hne hr
  have HL := Lib.hid (Pre.start h)
  go_enter Tryd.func130, Tryd.ntmps130
  go_wp2_with fail
  refine (next_cons HL.out.st).mono ?_
  rintro en w1 ⟨rfl, hb1⟩
  replace HL := Lib.hid ((HL.out.below hb1).alloc (.cells #[.int .i64 2, .string ⟨#[105, 102]⟩, .int .i64 off] 49))
  clear hb1
  simp only [show ba [105, 102] = ⟨#[105, 102]⟩ from rfl]
  go_wp2_with fail
  refine (stmt_if_worded w1).mono ?_
  rintro en w1' ⟨rfl, rfl⟩
  have hd : stmtF (gram n) (⟨2, [105, 102], off⟩ :: l) = (gram n).branch (⟨2, [105, 102], off⟩ :: l) := by simp [stmtF, kindOf, is]
  rw [hd] at HR
  clear hd
  go_wp2_with fail
  rcases hy : (gram n).branch (⟨2, [105, 102], off⟩ :: l) with _ | ⟨l2, k2⟩ | ⟨y, l2⟩
  · exact absurd (by rw [← HR.out, hy]) HN.out
  · have HF : r = .err l2 k2 := by rw [← HR.out, hy]
    refine (SPost.bad (HQ.out.branch HL.out.st (by rw [hy]; simp)) hy).mono ?_
    rintro en w2 ⟨rfl, hx⟩
    exact ⟨rfl, HL.out.panic hx HF⟩
  · have HF : r = .ok y l2 := by rw [← HR.out, hy]
    refine (SPost.got (HQ.out.branch HL.out.st (by rw [hy]; simp)) hy).mono ?_
    rintro en w2 ⟨ev, bv, lv, rfl, he, hbb, hl, hx, h1⟩
    obtain ⟨A1, c1, rfl, _⟩ := he.slice
    obtain ⟨A2, c2, rfl, _⟩ := hbb.slice
    obtain ⟨A3, c3, rfl, _⟩ := hl.slice
    have HE := Lib.hid (HL.out.erow he)
    have HB := Lib.hid (HL.out.srow hbb)
    have HLL := Lib.hid (HL.out.srow hl)
    replace HL := Lib.hid (HL.out.move hx h1)
    clear hx h1 he hbb hl hy
    obtain ⟨⟨s0, s1, s2, s3, s4⟩, sf, z1, z2, z3, z4⟩ := HL.out.facts
    go_wp2_with fail
    rw [HF]
    exact HL.out.fin rfl rfl HE.out HB.out HLL.out h
theorem stmt_while_worded (w1 : World) : Calls Tryd.prog 154 #[.string ⟨#[119, 104, 105, 108, 101]⟩] (w1.alloc (.cells #[.int .i64 2, .string ⟨#[119, 104, 105, 108, 101]⟩, .int .i64 off] 49)) fun en w' => en = .returned (.int .i64 0) ∧ w' = w1.alloc (.cells #[.int .i64 2, .string ⟨#[119, 104, 105, 108, 101]⟩, .int .i64 off] 49) := by
  generalize w1.alloc (.cells #[.int .i64 2, .string ⟨#[119, 104, 105, 108, 101]⟩, .int .i64 off] 49) = w2
  go_enter Tryd.func154, Tryd.ntmps154
  go_wp2_with fail
  go_ret
  exact ⟨rfl, rfl⟩
theorem stmt_while (ih : PAll n) (iq : QAll n) (h : PSt w pb tb e (⟨2, [119, 104, 105, 108, 101], off⟩ :: l)) (hne : stmtF (gram n) (⟨2, [119, 104, 105, 108, 101], off⟩ :: l) ≠ .out) : Calls Tryd.prog 130 #[pp pb] w (SPost w pb tb e (stmtF (gram n) (⟨2, [119, 104, 105, 108, 101], off⟩ :: l))) := by
  generalize hr : stmtF (gram n) (⟨2, [119, 104, 105, 108, 101], off⟩ :: l) = r at hne ⊢
  have HI := Lib.hid ih
  have HQ := Lib.hid iq
  have HN := Lib.hid hne
  have HR := Lib.hid hr
  clear ih iq hne hr
  have HL := Lib.hid (Pre.start h)
  go_enter Tryd.func130, Tryd.ntmps130
  go_wp2_with fail
  refine (next_cons HL.out.st).mono ?_
  rintro en w1 ⟨rfl, hb1⟩
  replace HL := Lib.hid ((HL.out.below hb1).alloc (.cells #[.int .i64 2, .string ⟨#[119, 104, 105, 108, 101]⟩, .int .i64 off] 49))
  clear hb1
  simp only [show ba [119, 104, 105, 108, 101] = ⟨#[119, 104, 105, 108, 101]⟩ from rfl]
  go_wp2_with fail
  refine (stmt_while_worded w1).mono ?_
  rintro en w1' ⟨rfl, rfl⟩
  have hd : stmtF (gram n) (⟨2, [119, 104, 105, 108, 101], off⟩ :: l) = ((gram n).expr l).bind fun x l1 => (blockF (gram n) l1).bind fun b l2 => .ok (.mk 5 [] [x] b []) l2 := by simp [stmtF, kindOf, is]
  rw [hd] at HR
  clear hd
  go_wp2_with fail
  refine (must_yes HL.out.st [119, 104, 105, 108, 101] (by simp [is])).mono ?_
  rintro en w2 ⟨rfl, hx, h1⟩
  replace HL := Lib.hid (HL.out.move hx h1)
  clear hx h1
  simp only [List.tail_cons] at HL
  obtain ⟨⟨s0, s1, s2, s3, s4⟩, sf, z1, z2, z3, z4⟩ := HL.out.facts
  go_wp2_with fail
  clear s0 s1 s2 s3 s4 sf z1 z2 z3 z4
  rcases hy : (gram n).expr l with _ | ⟨l2, k2⟩ | ⟨yw3, lw3⟩
  · exact absurd (by rw [← HR.out, hy] <;> rfl) HN.out
  · have HF : r = .err l2 k2 := by rw [← HR.out, hy] <;> rfl
    refine (EPost.bad (HI.out.expr HL.out.st (by rw [hy]; simp)) hy).mono ?_
    rintro en w3 ⟨rfl, hx⟩
    exact ⟨rfl, HL.out.panic hx HF⟩
  ·
    have HR' := HR.out
    simp only [R.bind, must, hy, if_true, Bool.false_eq_true, if_false, true_and, and_true] at HR'
    replace HR := Lib.hid HR'
    clear HR'
    refine (EPost.got (HI.out.expr HL.out.st (by rw [hy]; simp)) hy).mono ?_
    rintro en w3 ⟨kv, rfl, hr, hx, h1⟩
    obtain ⟨Aw3, cw3, rfl, _⟩ := hr.slice
    clear hy
    replace HL := Lib.hid (HL.out.lit1 hr hx h1 5 [])
    clear hr hx h1
    have hq1 := HL.out.facts.2.2.2.2.2.2.1
    go_wp2_with fail
    rcases hy : blockF (gram n) lw3 with _ | ⟨l2, k2⟩ | ⟨bw4, lw4⟩
    · exact absurd (by rw [← HR.out, hy] <;> rfl) HN.out
    · have HF : r = .err l2 k2 := by rw [← HR.out, hy] <;> rfl
      refine (BPost.bad (HQ.out.block HL.out.st (by rw [hy]; simp)) hy).mono ?_
      rintro en w4 ⟨rfl, hx⟩
      exact ⟨rfl, HL.out.panic hx HF⟩
    ·
      have HR' := HR.out
      simp only [R.bind, must, hy, if_true, Bool.false_eq_true, if_false, true_and, and_true] at HR'
      replace HR := Lib.hid HR'
      clear HR'
      refine (BPost.got (HQ.out.block HL.out.st (by rw [hy]; simp)) hy).mono ?_
      rintro en w4 ⟨vw4, rfl, hr, hx, h1⟩
      obtain ⟨Aw4, cw4, rfl, _⟩ := hr.slice
      clear hy
      have hr' := HL.out.made hr
      replace HL := Lib.hid (HL.out.move hx h1)
      obtain ⟨⟨c0, c1, c2, c3, c4⟩, cf, ⟨s0, s1, s2, s3, s4⟩, sf, z1, z2, z3, z4⟩ := HL.out.facts
      replace HL := Lib.hid (HL.out.setBody hr')
      clear hr hr' hx h1
      go_wp2_with fail
      clear c0 c1 c2 c3 c4 cf s0 s1 s2 s3 s4 sf z1 z2 z3 z4
      have HF := HR.out.symm
      have HL9 := HL
      clear HL
      obtain ⟨⟨c0, c1, c2, c3, c4⟩, cf, ⟨s0, s1, s2, s3, s4⟩, sf, z1, z2, z3, z4⟩ := HL9.out.facts
      go_wp2_with fail
      rw [HF]
      exact HL9.out.fin rfl rfl h
theorem stmt_for_worded (w1 : World) : Calls Tryd.prog 154 #[.string ⟨#[102, 111, 114]⟩] (w1.alloc (.cells #[.int .i64 2, .string ⟨#[102, 111, 114]⟩, .int .i64 off] 49)) fun en w' => en = .returned (.int .i64 0) ∧ w' = w1.alloc (.cells #[.int .i64 2, .string ⟨#[102, 111, 114]⟩, .int .i64 off] 49) := by
  generalize w1.alloc (.cells #[.int .i64 2, .string ⟨#[102, 111, 114]⟩, .int .i64 off] 49) = w2
  go_enter Tryd.func154, Tryd.ntmps154
  go_wp2_with fail
  go_ret
  exact ⟨rfl, rfl⟩
theorem stmt_for (ih : PAll n) (iq : QAll n) (h : PSt w pb tb e (⟨2, [102, 111, 114], off⟩ :: l)) (hne : stmtF (gram n) (⟨2, [102, 111, 114], off⟩ :: l) ≠ .out) : Calls Tryd.prog 130 #[pp pb] w (SPost w pb tb e (stmtF (gram n) (⟨2, [102, 111, 114], off⟩ :: l))) := by
  generalize hr : stmtF (gram n) (⟨2, [102, 111, 114], off⟩ :: l) = r at hne ⊢
  have HI := Lib.hid ih
  have HQ := Lib.hid iq
  have HN := Lib.hid hne
  have HR := Lib.hid hr
  clear ih iq hne hr
  have HL := Lib.hid (Pre.start h)
  go_enter Tryd.func130, Tryd.ntmps130
  go_wp2_with fail
  refine (next_cons HL.out.st).mono ?_
  rintro en w1 ⟨rfl, hb1⟩
  replace HL := Lib.hid ((HL.out.below hb1).alloc (.cells #[.int .i64 2, .string ⟨#[102, 111, 114]⟩, .int .i64 off] 49))
  clear hb1
  simp only [show ba [102, 111, 114] = ⟨#[102, 111, 114]⟩ from rfl]
  go_wp2_with fail
  refine (stmt_for_worded w1).mono ?_
  rintro en w1' ⟨rfl, rfl⟩
  have hd : stmtF (gram n) (⟨2, [102, 111, 114], off⟩ :: l) = (name l).bind fun s l1 => (must [61] l1).bind fun _ l2 => ((gram n).expr l2).bind fun x l3 => (must [116, 111] l3).bind fun _ l4 => ((gram n).expr l4).bind fun y l5 => (blockF (gram n) l5).bind fun b l6 => .ok (.mk 6 s [x, y] b []) l6 := by simp [stmtF, kindOf, is]
  rw [hd] at HR
  clear hd
  go_wp2_with fail
  refine (must_yes HL.out.st [102, 111, 114] (by simp [is])).mono ?_
  rintro en w2 ⟨rfl, hx, h1⟩
  replace HL := Lib.hid (HL.out.move hx h1)
  clear hx h1
  simp only [List.tail_cons] at HL
  obtain ⟨⟨s0, s1, s2, s3, s4⟩, sf, z1, z2, z3, z4⟩ := HL.out.facts
  go_wp2_with fail
  clear s0 s1 s2 s3 s4 sf z1 z2 z3 z4
  rcases name_cases l with ⟨k, hy, hk⟩ | ⟨tw3, rw3, rfl, hk, hk2, hy⟩
  · have HF : r = .err l k := by rw [← HR.out]; simp [hy, R.bind]
    refine (name_bad HL.out.st hk).mono ?_
    rintro en w3 ⟨rfl, hx⟩
    exact ⟨rfl, HL.out.panic hx HF⟩
  ·
    have HR' := HR.out
    simp only [R.bind, must, hy, if_true, Bool.false_eq_true, if_false, true_and, and_true] at HR'
    replace HR := Lib.hid HR'
    clear HR'
    refine (name_yes HL.out.st hk hk2).mono ?_
    rintro en w3 ⟨rfl, hx, h1⟩
    replace HL := Lib.hid (HL.out.move hx h1)
    clear hx h1 hy hk hk2
    generalize tw3.text = xw3 at HL HR
    replace HL := Lib.hid (HL.out.lit0 6 xw3)
    have hq1 := HL.out.facts.2.2.2.2.2.2.1
    go_wp2_with fail
    generalize hbs : w3.heap.size = bs at HL hq1 ⊢
    cases hm : is [61] rw3 with
    | false =>
      have HF : r = .err rw3 4 := by rw [← HR.out]; simp [must, hm, R.bind]
      refine (must_no HL.out.st [61] hm).mono ?_
      rintro en w4 ⟨rfl, hb⟩
      exact ⟨rfl, HL.out.panic (.of_below hb _) HF⟩
    | true =>
      have HR' := HR.out
      simp only [R.bind, must, hm, if_true, Bool.false_eq_true, if_false, true_and, and_true] at HR'
      replace HR := Lib.hid HR'
      clear HR'
      refine (must_yes HL.out.st [61] hm).mono ?_
      rintro en w4 ⟨rfl, hx, h1⟩
      replace HL := Lib.hid (HL.out.move hx h1)
      clear hx h1 hm
      generalize rw3.tail = mw4 at HL HR
      obtain ⟨⟨c0, c1, c2, c3, c4⟩, cf, ⟨s0, s1, s2, s3, s4⟩, sf, z1, z2, z3, z4⟩ := HL.out.facts
      go_wp2_with fail
      clear c0 c1 c2 c3 c4 cf s0 s1 s2 s3 s4 sf z1 z2 z3 z4
      rcases hy : (gram n).expr mw4 with _ | ⟨l2, k2⟩ | ⟨yw5, lw5⟩
      · exact absurd (by rw [← HR.out, hy] <;> rfl) HN.out
      · have HF : r = .err l2 k2 := by rw [← HR.out, hy] <;> rfl
        refine (EPost.bad (HI.out.expr HL.out.st (by rw [hy]; simp)) hy).mono ?_
        rintro en w5 ⟨rfl, hx⟩
        exact ⟨rfl, HL.out.panic hx HF⟩
      ·
        have HR' := HR.out
        simp only [R.bind, must, hy, if_true, Bool.false_eq_true, if_false, true_and, and_true] at HR'
        replace HR := Lib.hid HR'
        clear HR'
        refine (EPost.got (HI.out.expr HL.out.st (by rw [hy]; simp)) hy).mono ?_
        rintro en w5 ⟨kv, rfl, hr, hx, h1⟩
        obtain ⟨Aw5, cw5, rfl, _⟩ := hr.slice
        clear hy
        have HEB := Lib.hid (EBlk.new HL.out hr hx)
        replace HL := Lib.hid ((HL.out.move hx h1).alloc (.cells #[.int .i64 yw5.kind, .int .i64 yw5.num, .string (ba yw5.name), .slice Aw5 yw5.kids.length cw5] 36))
        clear hr hx h1
        have hq2 := HEB.out.ne
        obtain ⟨⟨c0, c1, c2, c3, c4⟩, cf, ⟨s0, s1, s2, s3, s4⟩, sf, z1, z2, z3, z4⟩ := HL.out.facts
        go_wp2_with fail
        clear c0 c1 c2 c3 c4 cf s0 s1 s2 s3 s4 sf z1 z2 z3 z4
        generalize heb : w5.heap.size = eb at HEB hq2 ⊢
        cases hm : is [116, 111] lw5 with
        | false =>
          have HF : r = .err lw5 4 := by rw [← HR.out]; simp [must, hm, R.bind]
          refine (must_no HL.out.st [116, 111] hm).mono ?_
          rintro en w6 ⟨rfl, hb⟩
          exact ⟨rfl, HL.out.panic (.of_below hb _) HF⟩
        | true =>
          have HR' := HR.out
          simp only [R.bind, must, hm, if_true, Bool.false_eq_true, if_false, true_and, and_true] at HR'
          replace HR := Lib.hid HR'
          clear HR'
          refine (must_yes HL.out.st [116, 111] hm).mono ?_
          rintro en w6 ⟨rfl, hx, h1⟩
          replace HEB := Lib.hid (HEB.out.move HL.out hx)
          replace HL := Lib.hid (HL.out.move hx h1)
          clear hx h1 hm
          generalize lw5.tail = mw6 at HL HR
          go_wp2_with fail
          refine wp_region_last_drew (S := fun w' => cells4 w' eb (.int .i64 yw5.kind) (.int .i64 yw5.num) (.string (ba yw5.name)) (.slice Aw5 yw5.kids.length cw5)) (ds := [3, 4, 5]) (by kernel_rfl) HEB.out.c (fun hHeld => ?_)
          refine wpAnyLast_take (i := 0) (v := .agg #[.int .i64 yw5.kind, .int .i64 yw5.num, .string (ba yw5.name), .slice Aw5 yw5.kids.length cw5]) rfl (by kernel_rfl) (by kernel_rfl) (by kernel_rfl) (by kernel_rfl) (by kernel_rfl) (fun _ _ _ h => h) (Or.inl ⟨by rfl, ?_⟩) hHeld ?_
          · rintro w' ⟨a0, a1, a2, a3⟩
            go_simp
          (try simp only [Act.put, List.setIfInBounds_toArray, List.set_cons_zero, List.set_cons_succ])
          refine last_pure (i := 1) (v := pp pb) rfl (by kernel_rfl) (by kernel_rfl) (by kernel_rfl) (fun _ _ _ h => h) (Or.inl ⟨by rfl, ?_⟩) ?_
          · intro w'
            go_simp
          (try simp only [Act.put, List.setIfInBounds_toArray, List.set_cons_zero, List.set_cons_succ])
          refine wpAnyLast_ready (rs := [2]) (by kernel_rfl) (by simp) ?_
          refine AllReadyL.cons rfl (by decide) (fun K hK => ?_) AllReadyL.nil
          go_simp
          replace HL := Lib.hid HL.out.drew
          replace HEB := Lib.hid HEB.out.drew
          rcases hy : (gram n).expr mw6 with _ | ⟨l2, k2⟩ | ⟨yw7, lw7⟩
          · exact absurd (by rw [← HR.out, hy] <;> rfl) HN.out
          · have HF : r = .err l2 k2 := by rw [← HR.out, hy] <;> rfl
            refine (EPost.bad (HI.out.expr HL.out.st (by rw [hy]; simp)) hy).mono ?_
            rintro en w7 ⟨rfl, hx⟩
            exact ⟨rfl, HL.out.panic hx HF⟩
          ·
            have HR' := HR.out
            simp only [R.bind, must, hy, if_true, Bool.false_eq_true, if_false, true_and, and_true] at HR'
            replace HR := Lib.hid HR'
            clear HR'
            refine (EPost.got (HI.out.expr HL.out.st (by rw [hy]; simp)) hy).mono ?_
            rintro en w7 ⟨kv, rfl, hr, hx, h1⟩
            obtain ⟨Aw7, cw7, rfl, _⟩ := hr.slice
            clear hy
            replace HEB := Lib.hid (HEB.out.move HL.out hx)
            have hr' := HL.out.madeE hr
            have HL2 := Lib.hid (HL.out.move hx h1)
            have HL3 := Lib.hid (HEB.out.two HL2.out hr')
            obtain ⟨⟨c0, c1, c2, c3, c4⟩, cf, ⟨s0, s1, s2, s3, s4⟩, sf, z1, z2, z3, z4⟩ := HL2.out.facts
            clear HL HL2 hr hr' hx h1
            refine hK.out _ _ HEB.out.c (fun _ => ?_)
            (try simp only [Act.put, List.setIfInBounds_toArray, List.set_cons_zero, List.set_cons_succ])
            refine wpAnyLast_ready (rs := [3]) (by kernel_rfl) (by simp) ?_
            refine AllReadyL.cons_last rfl (by decide) (fun K6 hK6 => ?_) AllReadyL.nil
            go_simp
            refine hK6.out _ _ ?_
            (try simp only [Act.put, List.setIfInBounds_toArray, List.set_cons_zero, List.set_cons_succ])
            refine wpAnyLast_ready (rs := [4]) (by kernel_rfl) (by simp) ?_
            refine AllReadyL.cons_last rfl (by decide) (fun K7 hK7 => ?_) AllReadyL.nil
            go_simp
            refine hK7.out _ _ ?_
            (try simp only [Act.put, List.setIfInBounds_toArray, List.set_cons_zero, List.set_cons_succ])
            refine wpAnyLast_ready (rs := [5]) (by kernel_rfl) (by simp) ?_
            refine AllReadyL.cons_last rfl (by decide) (fun K8 hK8 => ?_) AllReadyL.nil
            go_simp
            refine hK8.out _ _ ?_
            refine wpAnyLast_done (by kernel_rfl) ?_ _
            (try simp only [Act.put, List.setIfInBounds_toArray, List.set_cons_zero, List.set_cons_succ])
            go_wp2_with fail
            clear c0 c1 c2 c3 c4 cf s0 s1 s2 s3 s4 sf z1 z2 z3 z4
            have HL := HL3
            clear HL3 HEB
            rcases hy : blockF (gram n) lw7 with _ | ⟨l2, k2⟩ | ⟨bw8, lw8⟩
            · exact absurd (by rw [← HR.out, hy] <;> rfl) HN.out
            · have HF : r = .err l2 k2 := by rw [← HR.out, hy] <;> rfl
              refine (BPost.bad (HQ.out.block HL.out.st (by rw [hy]; simp)) hy).mono ?_
              rintro en w8 ⟨rfl, hx⟩
              exact ⟨rfl, HL.out.panic hx HF⟩
            ·
              have HR' := HR.out
              simp only [R.bind, must, hy, if_true, Bool.false_eq_true, if_false, true_and, and_true] at HR'
              replace HR := Lib.hid HR'
              clear HR'
              refine (BPost.got (HQ.out.block HL.out.st (by rw [hy]; simp)) hy).mono ?_
              rintro en w8 ⟨vw8, rfl, hr, hx, h1⟩
              obtain ⟨Aw8, cw8, rfl, _⟩ := hr.slice
              clear hy
              have hr' := HL.out.made hr
              replace HL := Lib.hid (HL.out.move hx h1)
              obtain ⟨⟨c0, c1, c2, c3, c4⟩, cf, ⟨s0, s1, s2, s3, s4⟩, sf, z1, z2, z3, z4⟩ := HL.out.facts
              replace HL := Lib.hid (HL.out.setBody hr')
              clear hr hr' hx h1
              go_wp2_with fail
              clear c0 c1 c2 c3 c4 cf s0 s1 s2 s3 s4 sf z1 z2 z3 z4
              have HF := HR.out.symm
              have HL9 := HL
              clear HL
              obtain ⟨⟨c0, c1, c2, c3, c4⟩, cf, ⟨s0, s1, s2, s3, s4⟩, sf, z1, z2, z3, z4⟩ := HL9.out.facts
              go_wp2_with fail
              rw [HF]
              exact HL9.out.fin rfl rfl h
theorem stmt_try_worded (w1 : World) : Calls Tryd.prog 154 #[.string ⟨#[116, 114, 121]⟩] (w1.alloc (.cells #[.int .i64 2, .string ⟨#[116, 114, 121]⟩, .int .i64 off] 49)) fun en w' => en = .returned (.int .i64 0) ∧ w' = w1.alloc (.cells #[.int .i64 2, .string ⟨#[116, 114, 121]⟩, .int .i64 off] 49) := by
  generalize w1.alloc (.cells #[.int .i64 2, .string ⟨#[116, 114, 121]⟩, .int .i64 off] 49) = w2
  go_enter Tryd.func154, Tryd.ntmps154
  go_wp2_with fail
  go_ret
  exact ⟨rfl, rfl⟩
theorem stmt_try (ih : PAll n) (iq : QAll n) (h : PSt w pb tb e (⟨2, [116, 114, 121], off⟩ :: l)) (hne : stmtF (gram n) (⟨2, [116, 114, 121], off⟩ :: l) ≠ .out) : Calls Tryd.prog 130 #[pp pb] w (SPost w pb tb e (stmtF (gram n) (⟨2, [116, 114, 121], off⟩ :: l))) := by
  generalize hr : stmtF (gram n) (⟨2, [116, 114, 121], off⟩ :: l) = r at hne ⊢
  have HI := Lib.hid ih
  have HQ := Lib.hid iq
  have HN := Lib.hid hne
  have HR := Lib.hid hr
  clear ih iq hne hr
  have HL := Lib.hid (Pre.start h)
  go_enter Tryd.func130, Tryd.ntmps130
  go_wp2_with fail
  refine (next_cons HL.out.st).mono ?_
  rintro en w1 ⟨rfl, hb1⟩
  replace HL := Lib.hid ((HL.out.below hb1).alloc (.cells #[.int .i64 2, .string ⟨#[116, 114, 121]⟩, .int .i64 off] 49))
  clear hb1
  simp only [show ba [116, 114, 121] = ⟨#[116, 114, 121]⟩ from rfl]
  go_wp2_with fail
  refine (stmt_try_worded w1).mono ?_
  rintro en w1' ⟨rfl, rfl⟩
  have hd : stmtF (gram n) (⟨2, [116, 114, 121], off⟩ :: l) = (blockF (gram n) l).bind fun b l1 => (must [99, 97, 116, 99, 104] l1).bind fun _ l2 => (name l2).bind fun s l3 => (blockF (gram n) l3).bind fun e l4 => .ok (.mk 9 s [] b e) l4 := by simp [stmtF, kindOf, is]
  rw [hd] at HR
  clear hd
  go_wp2_with fail
  refine (must_yes HL.out.st [116, 114, 121] (by simp [is])).mono ?_
  rintro en w2 ⟨rfl, hx, h1⟩
  replace HL := Lib.hid (HL.out.move hx h1)
  clear hx h1
  simp only [List.tail_cons] at HL
  obtain ⟨⟨s0, s1, s2, s3, s4⟩, sf, z1, z2, z3, z4⟩ := HL.out.facts
  go_wp2_with fail
  clear s0 s1 s2 s3 s4 sf z1 z2 z3 z4
  rcases hy : blockF (gram n) l with _ | ⟨l2, k2⟩ | ⟨bw3, lw3⟩
  · exact absurd (by rw [← HR.out, hy] <;> rfl) HN.out
  · have HF : r = .err l2 k2 := by rw [← HR.out, hy] <;> rfl
    refine (BPost.bad (HQ.out.block HL.out.st (by rw [hy]; simp)) hy).mono ?_
    rintro en w3 ⟨rfl, hx⟩
    exact ⟨rfl, HL.out.panic hx HF⟩
  ·
    have HR' := HR.out
    simp only [R.bind, must, hy, if_true, Bool.false_eq_true, if_false, true_and, and_true] at HR'
    replace HR := Lib.hid HR'
    clear HR'
    refine (BPost.got (HQ.out.block HL.out.st (by rw [hy]; simp)) hy).mono ?_
    rintro en w3 ⟨vw3, rfl, hr, hx, h1⟩
    obtain ⟨Aw3, cw3, rfl, _⟩ := hr.slice
    clear hy
    replace HL := Lib.hid (HL.out.litB hr hx h1 9 [])
    clear hr hx h1
    have hq1 := HL.out.facts.2.2.2.2.2.2.1
    go_wp2_with fail
    cases hm : is [99, 97, 116, 99, 104] lw3 with
    | false =>
      have HF : r = .err lw3 4 := by rw [← HR.out]; simp [must, hm, R.bind]
      refine (must_no HL.out.st [99, 97, 116, 99, 104] hm).mono ?_
      rintro en w4 ⟨rfl, hb⟩
      exact ⟨rfl, HL.out.panic (.of_below hb _) HF⟩
    | true =>
      have HR' := HR.out
      simp only [R.bind, must, hm, if_true, Bool.false_eq_true, if_false, true_and, and_true] at HR'
      replace HR := Lib.hid HR'
      clear HR'
      refine (must_yes HL.out.st [99, 97, 116, 99, 104] hm).mono ?_
      rintro en w4 ⟨rfl, hx, h1⟩
      replace HL := Lib.hid (HL.out.move hx h1)
      clear hx h1 hm
      generalize lw3.tail = mw4 at HL HR
      obtain ⟨⟨c0, c1, c2, c3, c4⟩, cf, ⟨s0, s1, s2, s3, s4⟩, sf, z1, z2, z3, z4⟩ := HL.out.facts
      go_wp2_with fail
      clear c0 c1 c2 c3 c4 cf s0 s1 s2 s3 s4 sf z1 z2 z3 z4
      rcases name_cases mw4 with ⟨k, hy, hk⟩ | ⟨tw5, rw5, rfl, hk, hk2, hy⟩
      · have HF : r = .err mw4 k := by rw [← HR.out]; simp [hy, R.bind]
        refine (name_bad HL.out.st hk).mono ?_
        rintro en w5 ⟨rfl, hx⟩
        exact ⟨rfl, HL.out.panic hx HF⟩
      ·
        have HR' := HR.out
        simp only [R.bind, must, hy, if_true, Bool.false_eq_true, if_false, true_and, and_true] at HR'
        replace HR := Lib.hid HR'
        clear HR'
        refine (name_yes HL.out.st hk hk2).mono ?_
        rintro en w5 ⟨rfl, hx, h1⟩
        replace HL := Lib.hid (HL.out.move hx h1)
        clear hx h1 hy hk hk2
        generalize tw5.text = xw5 at HL HR
        obtain ⟨⟨c0, c1, c2, c3, c4⟩, cf, ⟨s0, s1, s2, s3, s4⟩, sf, z1, z2, z3, z4⟩ := HL.out.facts
        replace HL := Lib.hid (HL.out.setName xw5)
        go_wp2_with fail
        clear c0 c1 c2 c3 c4 cf s0 s1 s2 s3 s4 sf z1 z2 z3 z4
        rcases hy : blockF (gram n) rw5 with _ | ⟨l2, k2⟩ | ⟨bw6, lw6⟩
        · exact absurd (by rw [← HR.out, hy] <;> rfl) HN.out
        · have HF : r = .err l2 k2 := by rw [← HR.out, hy] <;> rfl
          refine (BPost.bad (HQ.out.block HL.out.st (by rw [hy]; simp)) hy).mono ?_
          rintro en w6 ⟨rfl, hx⟩
          exact ⟨rfl, HL.out.panic hx HF⟩
        ·
          have HR' := HR.out
          simp only [R.bind, must, hy, if_true, Bool.false_eq_true, if_false, true_and, and_true] at HR'
          replace HR := Lib.hid HR'
          clear HR'
          refine (BPost.got (HQ.out.block HL.out.st (by rw [hy]; simp)) hy).mono ?_
          rintro en w6 ⟨vw6, rfl, hr, hx, h1⟩
          obtain ⟨Aw6, cw6, rfl, _⟩ := hr.slice
          clear hy
          have hr' := HL.out.made hr
          replace HL := Lib.hid (HL.out.move hx h1)
          obtain ⟨⟨c0, c1, c2, c3, c4⟩, cf, ⟨s0, s1, s2, s3, s4⟩, sf, z1, z2, z3, z4⟩ := HL.out.facts
          replace HL := Lib.hid (HL.out.setElse hr')
          clear hr hr' hx h1
          go_wp2_with fail
          clear c0 c1 c2 c3 c4 cf s0 s1 s2 s3 s4 sf z1 z2 z3 z4
          have HF := HR.out.symm
          have HL9 := HL
          clear HL
          obtain ⟨⟨c0, c1, c2, c3, c4⟩, cf, ⟨s0, s1, s2, s3, s4⟩, sf, z1, z2, z3, z4⟩ := HL9.out.facts
          go_wp2_with fail
          rw [HF]
          exact HL9.out.fin rfl rfl h
theorem stmt_array_worded (w1 : World) : Calls Tryd.prog 154 #[.string ⟨#[97, 114, 114, 97, 121]⟩] (w1.alloc (.cells #[.int .i64 2, .string ⟨#[97, 114, 114, 97, 121]⟩, .int .i64 off] 49)) fun en w' => en = .returned (.int .i64 0) ∧ w' = w1.alloc (.cells #[.int .i64 2, .string ⟨#[97, 114, 114, 97, 121]⟩, .int .i64 off] 49) := by
  generalize w1.alloc (.cells #[.int .i64 2, .string ⟨#[97, 114, 114, 97, 121]⟩, .int .i64 off] 49) = w2
  go_enter Tryd.func154, Tryd.ntmps154
  go_wp2_with fail
  go_ret
  exact ⟨rfl, rfl⟩
theorem stmt_array (ih : PAll n) (iq : QAll n) (h : PSt w pb tb e (⟨2, [97, 114, 114, 97, 121], off⟩ :: l)) (hne : stmtF (gram n) (⟨2, [97, 114, 114, 97, 121], off⟩ :: l) ≠ .out) : Calls Tryd.prog 130 #[pp pb] w (SPost w pb tb e (stmtF (gram n) (⟨2, [97, 114, 114, 97, 121], off⟩ :: l))) := by
  generalize hr : stmtF (gram n) (⟨2, [97, 114, 114, 97, 121], off⟩ :: l) = r at hne ⊢
  have HI := Lib.hid ih
  have HQ := Lib.hid iq
  have HN := Lib.hid hne
  have HR := Lib.hid hr
  clear ih iq hne hr
  have HL := Lib.hid (Pre.start h)
  go_enter Tryd.func130, Tryd.ntmps130
  go_wp2_with fail
  refine (next_cons HL.out.st).mono ?_
  rintro en w1 ⟨rfl, hb1⟩
  replace HL := Lib.hid ((HL.out.below hb1).alloc (.cells #[.int .i64 2, .string ⟨#[97, 114, 114, 97, 121]⟩, .int .i64 off] 49))
  clear hb1
  simp only [show ba [97, 114, 114, 97, 121] = ⟨#[97, 114, 114, 97, 121]⟩ from rfl]
  go_wp2_with fail
  refine (stmt_array_worded w1).mono ?_
  rintro en w1' ⟨rfl, rfl⟩
  have hd : stmtF (gram n) (⟨2, [97, 114, 114, 97, 121], off⟩ :: l) = .err (⟨2, [97, 114, 114, 97, 121], off⟩ :: l) 4 := by simp [stmtF, kindOf, is]
  rw [hd] at HR
  clear hd
  go_wp2_with fail
  refine (fail_calls HL.out.st 4).mono ?_
  rintro en w2 ⟨rfl, hb⟩
  exact ⟨rfl, HL.out.panic (.of_below hb _) HR.out.symm⟩
theorem stmt_func_worded (w1 : World) : Calls Tryd.prog 154 #[.string ⟨#[102, 117, 110, 99]⟩] (w1.alloc (.cells #[.int .i64 2, .string ⟨#[102, 117, 110, 99]⟩, .int .i64 off] 49)) fun en w' => en = .returned (.int .i64 0) ∧ w' = w1.alloc (.cells #[.int .i64 2, .string ⟨#[102, 117, 110, 99]⟩, .int .i64 off] 49) := by
  generalize w1.alloc (.cells #[.int .i64 2, .string ⟨#[102, 117, 110, 99]⟩, .int .i64 off] 49) = w2
  go_enter Tryd.func154, Tryd.ntmps154
  go_wp2_with fail
  go_ret
  exact ⟨rfl, rfl⟩
theorem stmt_func (ih : PAll n) (iq : QAll n) (h : PSt w pb tb e (⟨2, [102, 117, 110, 99], off⟩ :: l)) (hne : stmtF (gram n) (⟨2, [102, 117, 110, 99], off⟩ :: l) ≠ .out) : Calls Tryd.prog 130 #[pp pb] w (SPost w pb tb e (stmtF (gram n) (⟨2, [102, 117, 110, 99], off⟩ :: l))) := by
  generalize hr : stmtF (gram n) (⟨2, [102, 117, 110, 99], off⟩ :: l) = r at hne ⊢
  have HI := Lib.hid ih
  have HQ := Lib.hid iq
  have HN := Lib.hid hne
  have HR := Lib.hid hr
  clear ih iq hne hr
  have HL := Lib.hid (Pre.start h)
  go_enter Tryd.func130, Tryd.ntmps130
  go_wp2_with fail
  refine (next_cons HL.out.st).mono ?_
  rintro en w1 ⟨rfl, hb1⟩
  replace HL := Lib.hid ((HL.out.below hb1).alloc (.cells #[.int .i64 2, .string ⟨#[102, 117, 110, 99]⟩, .int .i64 off] 49))
  clear hb1
  simp only [show ba [102, 117, 110, 99] = ⟨#[102, 117, 110, 99]⟩ from rfl]
  go_wp2_with fail
  refine (stmt_func_worded w1).mono ?_
  rintro en w1' ⟨rfl, rfl⟩
  have hd : stmtF (gram n) (⟨2, [102, 117, 110, 99], off⟩ :: l) = .err (⟨2, [102, 117, 110, 99], off⟩ :: l) 4 := by simp [stmtF, kindOf, is]
  rw [hd] at HR
  clear hd
  go_wp2_with fail
  refine (fail_calls HL.out.st 4).mono ?_
  rintro en w2 ⟨rfl, hb⟩
  exact ⟨rfl, HL.out.panic (.of_below hb _) HR.out.symm⟩
theorem stmt_to_worded (w1 : World) : Calls Tryd.prog 154 #[.string ⟨#[116, 111]⟩] (w1.alloc (.cells #[.int .i64 2, .string ⟨#[116, 111]⟩, .int .i64 off] 49)) fun en w' => en = .returned (.int .i64 0) ∧ w' = w1.alloc (.cells #[.int .i64 2, .string ⟨#[116, 111]⟩, .int .i64 off] 49) := by
  generalize w1.alloc (.cells #[.int .i64 2, .string ⟨#[116, 111]⟩, .int .i64 off] 49) = w2
  go_enter Tryd.func154, Tryd.ntmps154
  go_wp2_with fail
  go_ret
  exact ⟨rfl, rfl⟩
theorem stmt_to (ih : PAll n) (iq : QAll n) (h : PSt w pb tb e (⟨2, [116, 111], off⟩ :: l)) (hne : stmtF (gram n) (⟨2, [116, 111], off⟩ :: l) ≠ .out) : Calls Tryd.prog 130 #[pp pb] w (SPost w pb tb e (stmtF (gram n) (⟨2, [116, 111], off⟩ :: l))) := by
  generalize hr : stmtF (gram n) (⟨2, [116, 111], off⟩ :: l) = r at hne ⊢
  have HI := Lib.hid ih
  have HQ := Lib.hid iq
  have HN := Lib.hid hne
  have HR := Lib.hid hr
  clear ih iq hne hr
  have HL := Lib.hid (Pre.start h)
  go_enter Tryd.func130, Tryd.ntmps130
  go_wp2_with fail
  refine (next_cons HL.out.st).mono ?_
  rintro en w1 ⟨rfl, hb1⟩
  replace HL := Lib.hid ((HL.out.below hb1).alloc (.cells #[.int .i64 2, .string ⟨#[116, 111]⟩, .int .i64 off] 49))
  clear hb1
  simp only [show ba [116, 111] = ⟨#[116, 111]⟩ from rfl]
  go_wp2_with fail
  refine (stmt_to_worded w1).mono ?_
  rintro en w1' ⟨rfl, rfl⟩
  have hd : stmtF (gram n) (⟨2, [116, 111], off⟩ :: l) = .err (⟨2, [116, 111], off⟩ :: l) 4 := by simp [stmtF, kindOf, is]
  rw [hd] at HR
  clear hd
  go_wp2_with fail
  refine (fail_calls HL.out.st 4).mono ?_
  rintro en w2 ⟨rfl, hb⟩
  exact ⟨rfl, HL.out.panic (.of_below hb _) HR.out.symm⟩
theorem stmt_else_worded (w1 : World) : Calls Tryd.prog 154 #[.string ⟨#[101, 108, 115, 101]⟩] (w1.alloc (.cells #[.int .i64 2, .string ⟨#[101, 108, 115, 101]⟩, .int .i64 off] 49)) fun en w' => en = .returned (.int .i64 0) ∧ w' = w1.alloc (.cells #[.int .i64 2, .string ⟨#[101, 108, 115, 101]⟩, .int .i64 off] 49) := by
  generalize w1.alloc (.cells #[.int .i64 2, .string ⟨#[101, 108, 115, 101]⟩, .int .i64 off] 49) = w2
  go_enter Tryd.func154, Tryd.ntmps154
  go_wp2_with fail
  go_ret
  exact ⟨rfl, rfl⟩
theorem stmt_else (ih : PAll n) (iq : QAll n) (h : PSt w pb tb e (⟨2, [101, 108, 115, 101], off⟩ :: l)) (hne : stmtF (gram n) (⟨2, [101, 108, 115, 101], off⟩ :: l) ≠ .out) : Calls Tryd.prog 130 #[pp pb] w (SPost w pb tb e (stmtF (gram n) (⟨2, [101, 108, 115, 101], off⟩ :: l))) := by
  generalize hr : stmtF (gram n) (⟨2, [101, 108, 115, 101], off⟩ :: l) = r at hne ⊢
  have HI := Lib.hid ih
  have HQ := Lib.hid iq
  have HN := Lib.hid hne
  have HR := Lib.hid hr
  clear ih iq hne hr
  have HL := Lib.hid (Pre.start h)
  go_enter Tryd.func130, Tryd.ntmps130
  go_wp2_with fail
  refine (next_cons HL.out.st).mono ?_
  rintro en w1 ⟨rfl, hb1⟩
  replace HL := Lib.hid ((HL.out.below hb1).alloc (.cells #[.int .i64 2, .string ⟨#[101, 108, 115, 101]⟩, .int .i64 off] 49))
  clear hb1
  simp only [show ba [101, 108, 115, 101] = ⟨#[101, 108, 115, 101]⟩ from rfl]
  go_wp2_with fail
  refine (stmt_else_worded w1).mono ?_
  rintro en w1' ⟨rfl, rfl⟩
  have hd : stmtF (gram n) (⟨2, [101, 108, 115, 101], off⟩ :: l) = .err (⟨2, [101, 108, 115, 101], off⟩ :: l) 4 := by simp [stmtF, kindOf, is]
  rw [hd] at HR
  clear hd
  go_wp2_with fail
  refine (fail_calls HL.out.st 4).mono ?_
  rintro en w2 ⟨rfl, hb⟩
  exact ⟨rfl, HL.out.panic (.of_below hb _) HR.out.symm⟩
theorem stmt_catch_worded (w1 : World) : Calls Tryd.prog 154 #[.string ⟨#[99, 97, 116, 99, 104]⟩] (w1.alloc (.cells #[.int .i64 2, .string ⟨#[99, 97, 116, 99, 104]⟩, .int .i64 off] 49)) fun en w' => en = .returned (.int .i64 0) ∧ w' = w1.alloc (.cells #[.int .i64 2, .string ⟨#[99, 97, 116, 99, 104]⟩, .int .i64 off] 49) := by
  generalize w1.alloc (.cells #[.int .i64 2, .string ⟨#[99, 97, 116, 99, 104]⟩, .int .i64 off] 49) = w2
  go_enter Tryd.func154, Tryd.ntmps154
  go_wp2_with fail
  go_ret
  exact ⟨rfl, rfl⟩
theorem stmt_catch (ih : PAll n) (iq : QAll n) (h : PSt w pb tb e (⟨2, [99, 97, 116, 99, 104], off⟩ :: l)) (hne : stmtF (gram n) (⟨2, [99, 97, 116, 99, 104], off⟩ :: l) ≠ .out) : Calls Tryd.prog 130 #[pp pb] w (SPost w pb tb e (stmtF (gram n) (⟨2, [99, 97, 116, 99, 104], off⟩ :: l))) := by
  generalize hr : stmtF (gram n) (⟨2, [99, 97, 116, 99, 104], off⟩ :: l) = r at hne ⊢
  have HI := Lib.hid ih
  have HQ := Lib.hid iq
  have HN := Lib.hid hne
  have HR := Lib.hid hr
  clear ih iq hne hr
  have HL := Lib.hid (Pre.start h)
  go_enter Tryd.func130, Tryd.ntmps130
  go_wp2_with fail
  refine (next_cons HL.out.st).mono ?_
  rintro en w1 ⟨rfl, hb1⟩
  replace HL := Lib.hid ((HL.out.below hb1).alloc (.cells #[.int .i64 2, .string ⟨#[99, 97, 116, 99, 104]⟩, .int .i64 off] 49))
  clear hb1
  simp only [show ba [99, 97, 116, 99, 104] = ⟨#[99, 97, 116, 99, 104]⟩ from rfl]
  go_wp2_with fail
  refine (stmt_catch_worded w1).mono ?_
  rintro en w1' ⟨rfl, rfl⟩
  have hd : stmtF (gram n) (⟨2, [99, 97, 116, 99, 104], off⟩ :: l) = .err (⟨2, [99, 97, 116, 99, 104], off⟩ :: l) 4 := by simp [stmtF, kindOf, is]
  rw [hd] at HR
  clear hd
  go_wp2_with fail
  refine (fail_calls HL.out.st 4).mono ?_
  rintro en w2 ⟨rfl, hb⟩
  exact ⟨rfl, HL.out.panic (.of_below hb _) HR.out.symm⟩
end
end Go.Proofs.YtdijffojppjmfaaDoor
