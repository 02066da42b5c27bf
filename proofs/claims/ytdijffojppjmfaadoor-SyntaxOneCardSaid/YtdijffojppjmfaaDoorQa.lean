/- All of the parser's statements. -/
import Derived.Test.YtdijffojppjmfaaDoorPz
set_option linter.unusedVariables false
namespace Go.Proofs.YtdijffojppjmfaaDoor
open Go.RowKit Bir Go.BW
section
variable {w : World} {pb tb e n : Nat} {l : List Tok}
theorem stmt_nil (h : PSt w pb tb e []) : Calls Tryd.prog 130 #[pp pb] w (SPost w pb tb e (.err [] 4)) := by
  have HL := Lib.hid (Pre.start h)
  go_enter Tryd.func130, Tryd.ntmps130
  go_wp2_with fail
  refine (next_nil HL.out.st).mono ?_
  rintro en w1 ⟨rfl, hb1⟩
  replace HL := Lib.hid ((HL.out.below hb1).alloc (.cells #[.int .i64 0, .string ⟨#[]⟩, .int .i64 e] 49))
  clear hb1
  go_wp2_with fail
  refine (fail_calls HL.out.st 4).mono ?_
  rintro en w2 ⟨rfl, hb⟩
  exact ⟨rfl, HL.out.panic (.of_below hb _) rfl⟩
theorem stmt_other {t : Tok} (h : PSt w pb tb e (t :: l)) (h1 : t.kind ≠ 1) (h2 : t.kind ≠ 2) : Calls Tryd.prog 130 #[pp pb] w (SPost w pb tb e (.err (t :: l) 4)) := by
  have HL := Lib.hid (Pre.start h)
  have e1 : ((t.kind : Int) == 1) = false := beq_eq_false_iff_ne.2 (by omega)
  have e2 : ((t.kind : Int) != 2) = true := by simp; omega
  go_enter Tryd.func130, Tryd.ntmps130
  go_wp2_with fail
  refine (next_cons HL.out.st).mono ?_
  rintro en w1 ⟨rfl, hb1⟩
  replace HL := Lib.hid ((HL.out.below hb1).alloc (.cells #[.int .i64 t.kind, .string (ba t.text), .int .i64 t.off] 49))
  clear hb1
  go_wp2_with fail
  refine (fail_calls HL.out.st 4).mono ?_
  rintro en w2 ⟨rfl, hb⟩
  exact ⟨rfl, HL.out.panic (.of_below hb _) rfl⟩
theorem stmt_name {t : Tok} (ih : PAll n) (h : PSt w pb tb e (t :: l)) (hk : t.kind = 1) (hne : namedF (gram n) (t :: l) ≠ .out) : Calls Tryd.prog 130 #[pp pb] w (SPost w pb tb e (namedF (gram n) (t :: l))) := by
  generalize hr : namedF (gram n) (t :: l) = r at hne ⊢
  have HL := Lib.hid (Pre.start h)
  have HI := Lib.hid ih
  have HN := Lib.hid hne
  have HR := Lib.hid hr
  clear ih hne hr
  have e1 : ((t.kind : Int) == 1) = true := by simp [hk]
  go_enter Tryd.func130, Tryd.ntmps130
  go_wp2_with fail
  refine (next_cons HL.out.st).mono ?_
  rintro en w1 ⟨rfl, hb1⟩
  replace HL := Lib.hid ((HL.out.below hb1).alloc (.cells #[.int .i64 1, .string (ba t.text), .int .i64 t.off] 49))
  clear hb1
  go_wp2_with fail
  rcases hy : namedF (gram n) (t :: l) with _ | ⟨l2, k2⟩ | ⟨y, l2⟩
  · exact absurd (by rw [← HR.out, hy]) HN.out
  · have HF : r = .err l2 k2 := by rw [← HR.out, hy]
    refine (SPost.bad (named_calls HI.out HL.out.st (by rw [hy]; simp)) hy).mono ?_
    rintro en w4 ⟨rfl, hx⟩
    exact ⟨rfl, HL.out.panic hx HF⟩
  · have HF : r = .ok y l2 := by rw [← HR.out, hy]
    refine (SPost.got (named_calls HI.out HL.out.st (by rw [hy]; simp)) hy).mono ?_
    rintro en w4 ⟨ev, bv, lv, rfl, he, hbb, hl, hx, h1⟩
    obtain ⟨A1, c1, rfl, _⟩ := he.slice
    obtain ⟨A2, c2, rfl, _⟩ := hbb.slice
    obtain ⟨A3, c3, rfl, _⟩ := hl.slice
    have HE := Lib.hid (HL.out.erow he)
    have HB := Lib.hid (HL.out.srow hbb)
    have HLL := Lib.hid (HL.out.srow hl)
    replace HL := Lib.hid (HL.out.move hx h1)
    clear hx h1 he hbb hl hy
    obtain ⟨⟨s0, s1, s2, s3, s4⟩, sf, z1, z2, z3, z4⟩ := HL.out.facts
    go_wp2_with fail
    rw [HF]
    exact HL.out.fin rfl rfl HE.out HB.out HLL.out h
theorem is_other (s : Str) {t : Tok} (h4 : t.kind ≠ 4) (h2 : t.kind ≠ 2) : is s (t :: l) = false := by simp [is, h4, h2]
theorem is_sign (s : Str) {t : Tok} (h2 : t.kind ≠ 2) (hok : t.ok) (hs : s ∉ signs) : is s (t :: l) = false := by
  by_cases h4 : t.kind = 4
  · have := hok.sgn h4
    have hne : t.text ≠ s := fun e => hs (e ▸ this)
    simp [is, hne]
  · exact is_other s h4 h2
theorem stmtF_other (r : Rec) {t : Tok} (h1 : t.kind ≠ 1) (h2 : t.kind ≠ 2) (hok : t.ok) : stmtF r (t :: l) = .err (t :: l) 4 := by
  have hi : ∀ s, s ∉ signs → is s (t :: l) = false := fun s hs => is_sign s h2 hok hs
  simp [stmtF, kindOf, h1, hi [112, 114, 105, 110, 116] (by decide), hi [116, 104, 114, 111, 119] (by decide), hi [114, 101, 116, 117, 114, 110] (by decide), hi [108, 101, 116] (by decide), hi [105, 102] (by decide),
    hi [119, 104, 105, 108, 101] (by decide), hi [102, 111, 114] (by decide), hi [116, 114, 121] (by decide)]
theorem stmt_step (ih : PAll n) (iq : QAll n) (h : PSt w pb tb e l) (hne : stmtF (gram n) l ≠ .out) : Calls Tryd.prog 130 #[pp pb] w (SPost w pb tb e (stmtF (gram n) l)) := by
  cases l with
  | nil => exact stmt_nil h
  | cons t l =>
    by_cases h1 : t.kind = 1
    · have hd : stmtF (gram n) (t :: l) = namedF (gram n) (t :: l) := by simp [stmtF, kindOf, h1]
      rw [hd] at hne ⊢
      exact stmt_name ih h h1 hne
    by_cases h2 : t.kind = 2
    · have hw := (h.wf t List.mem_cons_self).wrd h2
      obtain ⟨tk, tt, off⟩ := t
      simp only at h2 hw
      subst h2
      simp only [words, List.mem_cons, List.not_mem_nil, or_false] at hw
      rcases hw with rfl | rfl | rfl | rfl | rfl | rfl | rfl | rfl | rfl | rfl | rfl | rfl | rfl
      · exact stmt_array ih iq h hne
      · exact stmt_func ih iq h hne
      · exact stmt_let ih iq h hne
      · exact stmt_if ih iq h hne
      · exact stmt_else ih iq h hne
      · exact stmt_while ih iq h hne
      · exact stmt_for ih iq h hne
      · exact stmt_to ih iq h hne
      · exact stmt_print ih iq h hne
      · exact stmt_throw ih iq h hne
      · exact stmt_try ih iq h hne
      · exact stmt_catch ih iq h hne
      · exact stmt_return ih iq h hne
    · rw [stmtF_other (gram n) h1 h2 (h.wf t List.mem_cons_self)]
      exact stmt_other h h1 h2
theorem branch_step (ih : PAll n) (iq : QAll n) (h : PSt w pb tb e l) (hne : (gram (n + 1)).branch l ≠ .out) : Calls Tryd.prog 156 #[pp pb] w (SPost w pb tb e ((gram (n + 1)).branch l)) := by
  cases hm : is [105, 102] l with
  | true => exact branch_if ih iq h hm hne
  | false =>
    have hd : (gram (n + 1)).branch l = .err l 4 := by show branchF (gram n) l = _; simp [branchF, must, hm, R.bind]
    rw [hd]
    clear hne hd
    have HL := Lib.hid (Pre.start h)
    go_enter Tryd.func156, Tryd.ntmps156
    go_wp2_with fail
    refine (must_no HL.out.st [105, 102] hm).mono ?_
    rintro en w1 ⟨rfl, hb⟩
    exact ⟨rfl, HL.out.panic (.of_below hb _) rfl⟩
end
theorem qall : ∀ n, n ≤ 1000000000 → ∀ m, m ≤ n → QAll m := by
  intro n
  induction n with
  | zero =>
    intro _ m hm
    obtain rfl : m = 0 := by omega
    refine ⟨fun _ hne => absurd rfl hne, fun _ hne => absurd rfl hne, fun {w pb tb e l} h hne => ?_⟩
    exact block_step (by omega) (fun m hm => absurd hm (by omega)) h hne
  | succ n ihn =>
    intro hn m hm
    rcases Nat.lt_or_ge m (n + 1) with hlt | hge
    · exact ihn (by omega) m (by omega)
    obtain rfl : m = n + 1 := by omega
    have ih := pall n (by omega) n (Nat.le_refl _)
    have iq := ihn (by omega) n (Nat.le_refl _)
    exact ⟨fun h hne => stmt_step ih iq h hne, fun h hne => branch_step ih iq h hne, fun h hne => block_step hn (fun m hm => ihn (by omega) m (by omega)) h hne⟩
end Go.Proofs.YtdijffojppjmfaaDoor
