/- What is left is an end of what was given. -/
import Derived.Test.YtdijffojppjmfaaDoorRh
set_option linter.unusedVariables false
namespace Bir
def R.Suf {α : Type} (l : List Tok) : R α → Prop
  | .out => True
  | .err l' _ => l' <:+ l
  | .ok _ l' => l' <:+ l
theorem R.Suf.bind {α β : Type} {l m : List Tok} {a : R α} {f : α → List Tok → R β} (h : a.Suf m) (hm : m <:+ l) (hf : ∀ x l1, l1 <:+ l → (f x l1).Suf l) : (a.bind f).Suf l := by
  cases a with
  | out => trivial
  | err l' k => exact List.IsSuffix.trans h hm
  | ok x l' => exact hf x l' (List.IsSuffix.trans h hm)
theorem R.Suf.ite {α : Type} {p : Prop} [Decidable p] {l : List Tok} {a b : R α} (h1 : a.Suf l) (h2 : b.Suf l) : (if p then a else b).Suf l := by
  by_cases h : p
  · rw [if_pos h]; exact h1
  · rw [if_neg h]; exact h2
theorem R.Suf.mono {α : Type} {l m : List Tok} {a : R α} (h : a.Suf m) (hm : m <:+ l) : a.Suf l := by
  cases a with
  | out => trivial
  | err l' k => exact List.IsSuffix.trans h hm
  | ok x l' => exact List.IsSuffix.trans h hm
theorem suf_tail {l m : List Tok} (h : m <:+ l) : m.tail <:+ l := (List.tail_suffix m).trans h
theorem must_suf (s : Str) (l : List Tok) : (must s l).Suf l := .ite (List.tail_suffix l) (List.suffix_refl l)
theorem name_suf (l : List Tok) : (name l).Suf l := by
  cases l with
  | nil => exact List.suffix_refl _
  | cons t l => exact .ite (.ite (List.suffix_refl _) (List.suffix_cons t l)) (List.suffix_refl _)
theorem number_suf (l : List Tok) : (number l).Suf l := by
  cases l with
  | nil => exact List.suffix_refl _
  | cons t l =>
    refine .ite ?_ (List.suffix_refl _)
    cases value t.text with
    | none => exact List.suffix_refl _
    | some n => exact List.suffix_cons t l
theorem few_suf (n m : Nat) (l : List Tok) : (few n m l).Suf l := .ite (List.suffix_refl _) (List.suffix_refl _)
structure RecSuf (r : Rec) : Prop where
  expr : ∀ l, (r.expr l).Suf l
  bin : ∀ k l, (r.bin k l).Suf l
  loop : ∀ k x l, (r.loop k x l).Suf l
  un : ∀ l, (r.un l).Suf l
  args : ∀ xs l, (r.args xs l).Suf l
  stmt : ∀ l, (r.stmt l).Suf l
  stmts : ∀ xs l, (r.stmts xs l).Suf l
  branch : ∀ l, (r.branch l).Suf l
section
variable {r : Rec}
theorem R.Suf.of {α : Type} {l m : List Tok} {x : α} (h : m <:+ l) : (R.ok x m).Suf l := h
theorem blockF_suf (h : RecSuf r) (l : List Tok) : (blockF r l).Suf l := (must_suf _ _).bind (List.suffix_refl _) fun _ _ h1 => (h.stmts _ _).mono h1
theorem setF_suf (h : RecSuf r) (k : Int) (s : Str) (l : List Tok) : (setF r k s l).Suf l := (must_suf _ _).bind (List.suffix_refl _) fun _ _ h1 => (h.expr _).bind h1 fun _ _ h2 => (must_suf _ _).bind h2 fun _ _ h3 => h3
theorem namedF_suf (h : RecSuf r) (l : List Tok) : (namedF r l).Suf l := by
  unfold namedF
  refine (name_suf _).bind (List.suffix_refl _) fun s l1 h1 => .ite ?_ (.ite ?_ ((setF_suf h _ _ _).mono h1))
  · exact (h.expr _).bind (suf_tail h1) fun _ _ h2 => (must_suf _ _).bind h2 fun _ _ h3 => (must_suf _ _).bind h3 fun _ _ h4 => (h.expr _).bind h4 fun _ _ h5 => (must_suf _ _).bind h5 fun _ _ h6 => h6
  · exact (h.args _ _).bind (suf_tail h1) fun _ _ h2 => (must_suf _ _).bind h2 fun _ _ h3 => h3
theorem plainF_suf (h : RecSuf r) (k : Int) (l : List Tok) : (plainF r k l).Suf l := (h.expr _).bind (List.suffix_refl _) fun _ _ h1 => (must_suf _ _).bind h1 fun _ _ h2 => h2
theorem step_suf (h : RecSuf r) : RecSuf (step r) where
  expr l := (h.bin _ _).bind (List.suffix_refl _) fun _ _ h1 => .ite ((h.expr _).bind (suf_tail h1) fun _ _ h2 => (must_suf _ _).bind h2 fun _ _ h3 => (h.expr _).bind h3 fun _ _ h4 => h4) h1
  bin k l := .ite (h.un _) ((h.bin _ _).bind (List.suffix_refl _) fun _ _ h1 => (h.loop _ _ _).mono h1)
  loop k x l := by
    cases l with
    | nil => exact List.suffix_refl _
    | cons t l => exact .ite ((h.bin _ _).bind (List.suffix_cons t l) fun _ _ h1 => (h.loop _ _ _).mono h1) (List.suffix_refl _)
  un l := by
    show (unF r l).Suf l
    unfold unF
    have ht : l.tail <:+ l := List.tail_suffix l
    refine .ite ((h.un _).bind ht fun _ _ h1 => h1) (.ite ((h.un _).bind ht fun _ _ h1 => h1) (.ite ((number_suf _).bind (List.suffix_refl _) fun _ _ h1 => h1) (.ite ?_ ?_)))
    · exact (h.expr _).bind ht fun _ _ h1 => (must_suf _ _).bind h1 fun _ _ h2 => h2
    · exact (name_suf _).bind (List.suffix_refl _) fun _ _ h1 => .ite ((h.expr _).bind (suf_tail h1) fun _ _ h2 => (must_suf _ _).bind h2 fun _ _ h3 => h3) (.ite ((h.args _ _).bind (suf_tail h1) fun _ _ h2 => h2) h1)
  args xs l := by
    show (argsF r xs l).Suf l
    unfold argsF
    exact .ite (List.tail_suffix l) (R.Suf.bind (m := l) (.ite (List.suffix_refl _) (must_suf _ _)) (List.suffix_refl _) fun _ _ h1 => R.Suf.bind (.ite (few_suf _ _ _) (List.suffix_refl _)) h1 fun _ _ h2 => (h.expr _).bind h2 fun _ _ h3 => (h.args _ _).mono h3)
  stmt l := by
    show (stmtF r l).Suf l
    unfold stmtF
    have ht : l.tail <:+ l := List.tail_suffix l
    refine .ite (namedF_suf h _) (.ite ((plainF_suf h _ _).mono ht) (.ite ((plainF_suf h _ _).mono ht) (.ite ((plainF_suf h _ _).mono ht) (.ite ?_ (.ite (h.branch _) (.ite ?_ (.ite ?_ (.ite ?_ (List.suffix_refl _)))))))))
    · exact (name_suf _).bind ht fun _ _ h1 => (setF_suf h _ _ _).mono h1
    · exact (h.expr _).bind ht fun _ _ h1 => (blockF_suf h _).bind h1 fun _ _ h2 => h2
    · exact (name_suf _).bind ht fun _ _ h1 => (must_suf _ _).bind h1 fun _ _ h2 => (h.expr _).bind h2 fun _ _ h3 => (must_suf _ _).bind h3 fun _ _ h4 => (h.expr _).bind h4 fun _ _ h5 => (blockF_suf h _).bind h5 fun _ _ h6 => h6
    · exact (blockF_suf h _).bind ht fun _ _ h1 => (must_suf _ _).bind h1 fun _ _ h2 => (name_suf _).bind h2 fun _ _ h3 => (blockF_suf h _).bind h3 fun _ _ h4 => h4
  stmts xs l := .ite (List.tail_suffix l) ((h.stmt _).bind (List.suffix_refl _) fun _ _ h1 => (h.stmts _ _).mono h1)
  branch l := (must_suf _ _).bind (List.suffix_refl _) fun _ _ h1 => (h.expr _).bind h1 fun _ _ h2 => (blockF_suf h _).bind h2 fun _ _ h3 => .ite (.ite ((h.branch _).bind (suf_tail h3) fun _ _ h4 => h4) ((blockF_suf h _).bind (suf_tail h3) fun _ _ h4 => h4)) h3
end
theorem gram_suf : ∀ n, RecSuf (gram n)
  | 0 => ⟨fun _ => trivial, fun _ _ => trivial, fun _ _ _ => trivial, fun _ => trivial, fun _ _ => trivial, fun _ => trivial, fun _ _ => trivial, fun _ => trivial⟩
  | n + 1 => step_suf (gram_suf n)
theorem array_suf (l : List Tok) : (array l).Suf l := (must_suf _ _).bind (List.suffix_refl _) fun _ _ h1 => (name_suf _).bind h1 fun _ _ h2 => (must_suf _ _).bind h2 fun _ _ h3 => (number_suf _).bind h3 fun _ _ h4 => (must_suf _ _).bind h4 fun _ _ h5 => (must_suf _ _).bind h5 fun _ _ h6 => h6
theorem paramsF_suf : ∀ n xs l, (paramsF n xs l).Suf l
  | 0, _, _ => trivial
  | n + 1, xs, l => by
    unfold paramsF
    exact .ite (List.tail_suffix l) (R.Suf.bind (m := l) (.ite (List.suffix_refl _) (must_suf _ _)) (List.suffix_refl _) fun _ _ h1 => R.Suf.bind (.ite (few_suf _ _ _) (List.suffix_refl _)) h1 fun _ _ h2 => (name_suf _).bind h2 fun _ _ h3 => (paramsF_suf n _ _).mono h3)
theorem func_suf (n : Nat) (l : List Tok) : (func n l).Suf l := (must_suf _ _).bind (List.suffix_refl _) fun _ _ h1 => (name_suf _).bind h1 fun _ _ h2 => (must_suf _ _).bind h2 fun _ _ h3 => (paramsF_suf _ _ _).bind h3 fun _ _ h4 => (blockF_suf (gram_suf n) _).bind h4 fun _ _ h5 => h5
theorem prog_suf (n : Nat) : ∀ m as fs l, (prog n m as fs l).Suf l
  | 0, _, _, _ => trivial
  | m + 1, as, fs, l => by
    unfold prog
    exact .ite (List.nil_suffix) (.ite ((few_suf _ _ _).bind (List.suffix_refl _) fun _ _ h1 => (array_suf _).bind h1 fun _ _ h2 => (prog_suf n m _ _ _).mono h2) (.ite ((few_suf _ _ _).bind (List.suffix_refl _) fun _ _ h1 => (func_suf _ _).bind h1 fun _ _ h2 => (prog_suf n m _ _ _).mono h2) (List.suffix_refl _)))
end Bir
