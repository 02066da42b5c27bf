/- What is left is an end of what was given. What the laws on prefixes, blanks and two programs say of the readings, plainly. -/
import Derived.Test.YtdijffojppjmfaaDoorRa
import Derived.Test.YtdijffojppjmfaaDoorQp
import Derived.Test.YtdijffojppjmfaaDoorRe
set_option linter.unusedVariables false
namespace Bir
def R.Suf {α : Type} (l : List Tok) : R α → Prop
  | .out => True
  | .err l' _ => l' <:+ l
  | .ok _ l' => l' <:+ l
theorem R.Suf.bind {α β : Type} {l m : List Tok} {a : R α} {f : α → List Tok → R β} (h : a.Suf m) (hm : m <:+ l) (hf : ∀ x l1, l1 <:+ l → (f x l1).Suf l) : (a.bind f).Suf l := by
  cases a with
  | out => trivial
  | err l' k => exact List.IsSuffix.trans h hm
  | ok x l' => exact hf x l' (List.IsSuffix.trans h hm)
theorem R.Suf.ite {α : Type} {p : Prop} [Decidable p] {l : List Tok} {a b : R α} (h1 : a.Suf l) (h2 : b.Suf l) : (if p then a else b).Suf l := by
  by_cases h : p
  · rw [if_pos h]; exact h1
  · rw [if_neg h]; exact h2
theorem R.Suf.mono {α : Type} {l m : List Tok} {a : R α} (h : a.Suf m) (hm : m <:+ l) : a.Suf l := by
  cases a with
  | out => trivial
  | err l' k => exact List.IsSuffix.trans h hm
  | ok x l' => exact List.IsSuffix.trans h hm
theorem suf_tail {l m : List Tok} (h : m <:+ l) : m.tail <:+ l := (List.tail_suffix m).trans h
theorem must_suf (s : Str) (l : List Tok) : (must s l).Suf l := .ite (List.tail_suffix l) (List.suffix_refl l)
theorem name_suf (l : List Tok) : (name l).Suf l := by
  cases l with
  | nil => exact List.suffix_refl _
  | cons t l => exact .ite (.ite (List.suffix_refl _) (List.suffix_cons t l)) (List.suffix_refl _)
theorem number_suf (l : List Tok) : (number l).Suf l := by
  cases l with
  | nil => exact List.suffix_refl _
  | cons t l =>
    refine .ite ?_ (List.suffix_refl _)
    cases value t.text with
    | none => exact List.suffix_refl _
    | some n => exact List.suffix_cons t l
theorem few_suf (n m : Nat) (l : List Tok) : (few n m l).Suf l := .ite (List.suffix_refl _) (List.suffix_refl _)
structure RecSuf (r : Rec) : Prop where
  expr : ∀ l, (r.expr l).Suf l
  bin : ∀ k l, (r.bin k l).Suf l
  loop : ∀ k x l, (r.loop k x l).Suf l
  un : ∀ l, (r.un l).Suf l
  args : ∀ xs l, (r.args xs l).Suf l
  stmt : ∀ l, (r.stmt l).Suf l
  stmts : ∀ xs l, (r.stmts xs l).Suf l
  branch : ∀ l, (r.branch l).Suf l
section
variable {r : Rec}
theorem R.Suf.of {α : Type} {l m : List Tok} {x : α} (h : m <:+ l) : (R.ok x m).Suf l := h
theorem blockF_suf (h : RecSuf r) (l : List Tok) : (blockF r l).Suf l := (must_suf _ _).bind (List.suffix_refl _) fun _ _ h1 => (h.stmts _ _).mono h1
theorem setF_suf (h : RecSuf r) (k : Int) (s : Str) (l : List Tok) : (setF r k s l).Suf l := (must_suf _ _).bind (List.suffix_refl _) fun _ _ h1 => (h.expr _).bind h1 fun _ _ h2 => (must_suf _ _).bind h2 fun _ _ h3 => h3
theorem namedF_suf (h : RecSuf r) (l : List Tok) : (namedF r l).Suf l := by
  unfold namedF
  refine (name_suf _).bind (List.suffix_refl _) fun s l1 h1 => .ite ?_ (.ite ?_ ((setF_suf h _ _ _).mono h1))
  · exact (h.expr _).bind (suf_tail h1) fun _ _ h2 => (must_suf _ _).bind h2 fun _ _ h3 => (must_suf _ _).bind h3 fun _ _ h4 => (h.expr _).bind h4 fun _ _ h5 => (must_suf _ _).bind h5 fun _ _ h6 => h6
  · exact (h.args _ _).bind (suf_tail h1) fun _ _ h2 => (must_suf _ _).bind h2 fun _ _ h3 => h3
theorem plainF_suf (h : RecSuf r) (k : Int) (l : List Tok) : (plainF r k l).Suf l := (h.expr _).bind (List.suffix_refl _) fun _ _ h1 => (must_suf _ _).bind h1 fun _ _ h2 => h2
theorem step_suf (h : RecSuf r) : RecSuf (step r) where
  expr l := (h.bin _ _).bind (List.suffix_refl _) fun _ _ h1 => .ite ((h.expr _).bind (suf_tail h1) fun _ _ h2 => (must_suf _ _).bind h2 fun _ _ h3 => (h.expr _).bind h3 fun _ _ h4 => h4) h1
  bin k l := .ite (h.un _) ((h.bin _ _).bind (List.suffix_refl _) fun _ _ h1 => (h.loop _ _ _).mono h1)
  loop k x l := by
    cases l with
    | nil => exact List.suffix_refl _
    | cons t l => exact .ite ((h.bin _ _).bind (List.suffix_cons t l) fun _ _ h1 => (h.loop _ _ _).mono h1) (List.suffix_refl _)
  un l := by
    show (unF r l).Suf l
    unfold unF
    have ht : l.tail <:+ l := List.tail_suffix l
    refine .ite ((h.un _).bind ht fun _ _ h1 => h1) (.ite ((h.un _).bind ht fun _ _ h1 => h1) (.ite ((number_suf _).bind (List.suffix_refl _) fun _ _ h1 => h1) (.ite ?_ ?_)))
    · exact (h.expr _).bind ht fun _ _ h1 => (must_suf _ _).bind h1 fun _ _ h2 => h2
    · exact (name_suf _).bind (List.suffix_refl _) fun _ _ h1 => .ite ((h.expr _).bind (suf_tail h1) fun _ _ h2 => (must_suf _ _).bind h2 fun _ _ h3 => h3) (.ite ((h.args _ _).bind (suf_tail h1) fun _ _ h2 => h2) h1)
  args xs l := by
    show (argsF r xs l).Suf l
    unfold argsF
    exact .ite (List.tail_suffix l) (R.Suf.bind (m := l) (.ite (List.suffix_refl _) (must_suf _ _)) (List.suffix_refl _) fun _ _ h1 => R.Suf.bind (.ite (few_suf _ _ _) (List.suffix_refl _)) h1 fun _ _ h2 => (h.expr _).bind h2 fun _ _ h3 => (h.args _ _).mono h3)
  stmt l := by
    show (stmtF r l).Suf l
    unfold stmtF
    have ht : l.tail <:+ l := List.tail_suffix l
    refine .ite (namedF_suf h _) (.ite ((plainF_suf h _ _).mono ht) (.ite ((plainF_suf h _ _).mono ht) (.ite ((plainF_suf h _ _).mono ht) (.ite ?_ (.ite (h.branch _) (.ite ?_ (.ite ?_ (.ite ?_ (List.suffix_refl _)))))))))
    · exact (name_suf _).bind ht fun _ _ h1 => (setF_suf h _ _ _).mono h1
    · exact (h.expr _).bind ht fun _ _ h1 => (blockF_suf h _).bind h1 fun _ _ h2 => h2
    · exact (name_suf _).bind ht fun _ _ h1 => (must_suf _ _).bind h1 fun _ _ h2 => (h.expr _).bind h2 fun _ _ h3 => (must_suf _ _).bind h3 fun _ _ h4 => (h.expr _).bind h4 fun _ _ h5 => (blockF_suf h _).bind h5 fun _ _ h6 => h6
    · exact (blockF_suf h _).bind ht fun _ _ h1 => (must_suf _ _).bind h1 fun _ _ h2 => (name_suf _).bind h2 fun _ _ h3 => (blockF_suf h _).bind h3 fun _ _ h4 => h4
  stmts xs l := .ite (List.tail_suffix l) ((h.stmt _).bind (List.suffix_refl _) fun _ _ h1 => (h.stmts _ _).mono h1)
  branch l := (must_suf _ _).bind (List.suffix_refl _) fun _ _ h1 => (h.expr _).bind h1 fun _ _ h2 => (blockF_suf h _).bind h2 fun _ _ h3 => .ite (.ite ((h.branch _).bind (suf_tail h3) fun _ _ h4 => h4) ((blockF_suf h _).bind (suf_tail h3) fun _ _ h4 => h4)) h3
end
theorem gram_suf : ∀ n, RecSuf (gram n)
  | 0 => ⟨fun _ => trivial, fun _ _ => trivial, fun _ _ _ => trivial, fun _ => trivial, fun _ _ => trivial, fun _ => trivial, fun _ _ => trivial, fun _ => trivial⟩
  | n + 1 => step_suf (gram_suf n)
theorem array_suf (l : List Tok) : (array l).Suf l := (must_suf _ _).bind (List.suffix_refl _) fun _ _ h1 => (name_suf _).bind h1 fun _ _ h2 => (must_suf _ _).bind h2 fun _ _ h3 => (number_suf _).bind h3 fun _ _ h4 => (must_suf _ _).bind h4 fun _ _ h5 => (must_suf _ _).bind h5 fun _ _ h6 => h6
theorem paramsF_suf : ∀ n xs l, (paramsF n xs l).Suf l
  | 0, _, _ => trivial
  | n + 1, xs, l => by
    unfold paramsF
    exact .ite (List.tail_suffix l) (R.Suf.bind (m := l) (.ite (List.suffix_refl _) (must_suf _ _)) (List.suffix_refl _) fun _ _ h1 => R.Suf.bind (.ite (few_suf _ _ _) (List.suffix_refl _)) h1 fun _ _ h2 => (name_suf _).bind h2 fun _ _ h3 => (paramsF_suf n _ _).mono h3)
theorem func_suf (n : Nat) (l : List Tok) : (func n l).Suf l := (must_suf _ _).bind (List.suffix_refl _) fun _ _ h1 => (name_suf _).bind h1 fun _ _ h2 => (must_suf _ _).bind h2 fun _ _ h3 => (paramsF_suf _ _ _).bind h3 fun _ _ h4 => (blockF_suf (gram_suf n) _).bind h4 fun _ _ h5 => h5
theorem prog_suf (n : Nat) : ∀ m ar fs l, (prog n m ar fs l).Suf l
  | 0, _, _, _ => trivial
  | m + 1, ar, fs, l => by
    unfold prog
    exact .ite (List.nil_suffix) (.ite ((few_suf _ _ _).bind (List.suffix_refl _) fun _ _ h1 => (array_suf _).bind h1 fun _ _ h2 => (prog_suf n m _ _ _).mono h2) (.ite ((few_suf _ _ _).bind (List.suffix_refl _) fun _ _ h1 => (func_suf _ _).bind h1 fun _ _ h2 => (prog_suf n m _ _ _).mono h2) (List.suffix_refl _)))
end Bir
set_option linter.unusedVariables false
namespace Bir
open Go.Proofs.YtdijffojppjmfaaDoor
theorem readRes_err {α : Type} {p : List Tok → R α} {s : Str} {l l2 : List Tok} {k : Nat} (hl : s.length ≤ 20000) (hok : lex s = .ok l) (hy : p l = .err l2 k) : readRes p s = (none, offAt s.length l2, k) := by
  unfold readRes
  rw [if_neg (by omega), hok]
  simp only [hy]
theorem parseP_ok {s : Str} {l : List Tok} {x : Pr} (hl : s.length ≤ 20000) (hok : lex s = .ok l) (hy : prog fuel0 fuel0 [] [] l = .ok x []) : parseP s = if 60 < deepP x.funcs then (none, 0, 3) else (some x, 0, 0) := by
  unfold parseP
  rw [readRes_ok hl hok hy]
  rfl
theorem parseP_bad {s : Str} {l l2 : List Tok} {k : Nat} (hl : s.length ≤ 20000) (hok : lex s = .ok l) (hy : prog fuel0 fuel0 [] [] l = .err l2 k) : parseP s = (none, offAt s.length l2, k) := by
  unfold parseP
  rw [readRes_err hl hok hy]
/-- What a reading that comes to a program is. -/
theorem parseP_some {s : Str} {x : Pr} {a k : Nat} (hs : s.length ≤ 20001) (h : parseP s = (some x, a, k)) : s.length ≤ 20000 ∧ a = 0 ∧ k = 0 ∧ deepP x.funcs ≤ 60 ∧ ∃ l, lex s = .ok l ∧ prog fuel0 fuel0 [] [] l = .ok x [] := by
  rcases readRes_cases (prog fuel0 fuel0 [] []) s (fun l => prog_k _ _ _ _ l) (fun l hl => prog_out (lex_len hs hl)) with ⟨y, l, h1, h2, h3, h4⟩ | ⟨a', k', _, h4⟩
  · unfold parseP at h
    rw [h4] at h
    simp only at h
    split at h
    · cases h
    · cases h
      exact ⟨h2, rfl, rfl, by omega, l, h1, h3⟩
  · unfold parseP at h
    rw [h4] at h
    cases h
theorem parseP_none {s : Str} {a k : Nat} (hs : s.length ≤ 20001) (h : parseP s = (none, a, k)) : k ≠ 0 := by
  rcases readRes_cases (prog fuel0 fuel0 [] []) s (fun l => prog_k _ _ _ _ l) (fun l hl => prog_out (lex_len hs hl)) with ⟨y, l, h1, h2, h3, h4⟩ | ⟨a', k', hk, h4⟩
  · unfold parseP at h
    rw [h4] at h
    simp only at h
    split at h <;> cases h
    simp
  · unfold parseP at h
    rw [h4] at h
    cases h
    omega
theorem prefix_law {t : Str} {r : Option Pr} {a : Nat} {l : List Tok} (ht : t.length ≤ 20001) (h : parseP t = (r, a, 4)) (hal : a ≤ t.length) (hl : lex t = .ok l) :
    ∃ r' n g, parseP (t.take a) = (r', n, g) ∧ (g = 0 ∨ g = 4 ∧ n = (t.take a).length ∨ g = 3 ∧ n = 0) := by
  by_cases hlen : 20000 < t.length
  · have : parseP t = (none, 0, 3) := by unfold parseP readRes; rw [if_pos hlen]
    rw [this] at h
    cases h
  · have hne : prog fuel0 fuel0 [] [] l ≠ .out := prog_out (lex_len ht hl)
    cases hp : prog fuel0 fuel0 [] [] l with
    | out => exact absurd hp hne
    | ok x l' =>
      obtain rfl := prog_nil_end _ _ _ _ _ _ _ hp
      rw [parseP_ok (by omega) hl hp] at h
      split at h <;> cases h
    | err l' k =>
      have hb := parseP_bad (by omega) hl hp
      rw [hb] at h
      cases h
      have hs : l' <:+ l := by
        have := prog_suf fuel0 fuel0 [] [] l
        rw [hp] at this
        exact this
      obtain ⟨p, rfl⟩ := hs
      cases l' with
      | nil =>
        have e : offAt t.length [] = t.length := rfl
        rw [e] at hal hb ⊢
        rw [List.take_length]
        exact ⟨_, _, _, hb, .inr (.inl ⟨rfl, rfl⟩)⟩
      | cons u q =>
        have e : offAt t.length (u :: q) = u.off := rfl
        rw [e] at hal ⊢
        have hx := (lex_prefix hl).2
        have hlt : (t.take u.off).length ≤ 20000 := by rw [List.length_take]; omega
        have hn2 : prog fuel0 fuel0 [] [] p ≠ .out := prog_out (lex_len (by omega) hx)
        rcases prog_prefix hp hn2 with ⟨x, h1⟩ | h1
        · rw [parseP_ok hlt hx h1]
          split
          · exact ⟨_, _, _, rfl, .inr (.inr ⟨rfl, rfl⟩)⟩
          · exact ⟨_, _, _, rfl, .inl rfl⟩
        · rw [parseP_bad hlt hx h1]
          exact ⟨_, _, _, rfl, .inr (.inl ⟨rfl, rfl⟩)⟩
/-- Blanks and a remark. -/
def gapS : Str := [9, 47, 47, 32, 59, 32, 125, 32, 120, 10, 32, 13]
theorem gap_skip (z : Str) : skip false (gapS ++ z) = skip false z := by
  simp [gapS, skip, blankB]
theorem blanks_law {t : Str} {x : Pr} {a k : Nat} {l : List Tok} {u : Tok} (ht : t.length ≤ 20001) (h : parseP t = (some x, a, k)) (hl : lex t = .ok l) (hu : u ∈ l) (hlen : t.length + 12 ≤ 20000) :
    u.off ≤ t.length ∧ parseP (t.take u.off ++ gapS ++ t.drop u.off) = (some x, 0, 0) := by
  obtain ⟨h1, rfl, rfl, hd, l', hl', hp⟩ := parseP_some ht h
  rw [hl] at hl'
  cases hl'
  obtain ⟨h2, m, hm, hs⟩ := lex_gap hl hu gap_skip (fun c hc => by cases hc; exact safe_tab) (by simp [gapS])
  refine ⟨h2, ?_⟩
  have := prog_alike hs.symm hp
  rw [parseP_ok (by simp [gapS]; omega) hm this, if_neg (by omega)]
theorem one_law {s t : Str} {x y : Pr} {a k b j : Nat} (hs : s.length ≤ 20001) (ht : t.length ≤ 20001) (h1 : parseP s = (some x, a, k)) (h2 : parseP t = (some y, b, j)) (hlen : s.length + t.length < 20000) :
    (x.arrays.length + y.arrays.length ≤ 16 ∧ x.funcs.length + y.funcs.length ≤ 40 → parseP (s ++ 10 :: t) = (some ⟨x.arrays ++ y.arrays, x.funcs ++ y.funcs⟩, 0, 0)) ∧
    (¬ (x.arrays.length + y.arrays.length ≤ 16 ∧ x.funcs.length + y.funcs.length ≤ 40) → ∃ n, parseP (s ++ 10 :: t) = (none, n, 3)) := by
  obtain ⟨h3, _, _, hd, l, hl, hp⟩ := parseP_some hs h1
  obtain ⟨h4, _, _, he, m, hm, hq⟩ := parseP_some ht h2
  obtain ⟨l', hl', hst⟩ := lex_feed hl hm
  have hll := (lex_ok (by omega) hl).2
  have hlm := (lex_ok (by omega) hm).2
  have ho := prog_one hp hq (by omega)
  have hsz : (s ++ 10 :: t).length ≤ 20000 := by simp; omega
  rw [← List.map_append] at hst
  refine ⟨fun hc => ?_, fun hc => ?_⟩
  · rw [parseP_ok hsz hl' (prog_alike hst.symm (ho.1 hc)), if_neg (by rw [deepP_app]; omega)]
  · obtain ⟨e, h5⟩ := ho.2 hc
    obtain ⟨e', h6, _⟩ := prog_alike_err hst.symm h5
    exact ⟨_, parseP_bad hsz hl' h6⟩
end Bir
