/- Which errors a reading has. -/
import Derived.Test.YtdijffojppjmfaaDoorRg
set_option linter.unusedVariables false
namespace Bir
def R.K {α : Type} : R α → Prop
  | .err _ k => k = 3 ∨ k = 4
  | _ => True
theorem R.K.bind {α β : Type} {a : R α} {f : α → List Tok → R β} (h : a.K) (hf : ∀ x l, (f x l).K) : (a.bind f).K := by
  cases a with
  | out => trivial
  | err l k => exact h
  | ok x l => exact hf x l
theorem R.K.ite {α : Type} {p : Prop} [Decidable p] {a b : R α} (h1 : a.K) (h2 : b.K) : (if p then a else b).K := by
  by_cases h : p
  · rw [if_pos h]; exact h1
  · rw [if_neg h]; exact h2
theorem R.K.ok {α : Type} (x : α) (l : List Tok) : (R.ok x l).K := trivial
theorem must_k (s : Str) (l : List Tok) : (must s l).K := .ite trivial (.inr rfl)
theorem name_k (l : List Tok) : (name l).K := by
  cases l with
  | nil => exact .inr rfl
  | cons t l => exact .ite (.ite (.inl rfl) trivial) (.inr rfl)
theorem number_k (l : List Tok) : (number l).K := by
  cases l with
  | nil => exact .inr rfl
  | cons t l =>
    refine .ite ?_ (.inr rfl)
    cases value t.text with
    | none => exact .inl rfl
    | some n => trivial
theorem few_k (n m : Nat) (l : List Tok) : (few n m l).K := .ite (.inl rfl) trivial
structure RecK (r : Rec) : Prop where
  expr : ∀ l, (r.expr l).K
  bin : ∀ k l, (r.bin k l).K
  loop : ∀ k x l, (r.loop k x l).K
  un : ∀ l, (r.un l).K
  args : ∀ xs l, (r.args xs l).K
  stmt : ∀ l, (r.stmt l).K
  stmts : ∀ xs l, (r.stmts xs l).K
  branch : ∀ l, (r.branch l).K
section
variable {r : Rec}
theorem blockF_k (h : RecK r) (l : List Tok) : (blockF r l).K := (must_k _ _).bind fun _ _ => h.stmts _ _
theorem setF_k (h : RecK r) (k : Int) (s : Str) (l : List Tok) : (setF r k s l).K := (must_k _ _).bind fun _ _ => (h.expr _).bind fun _ _ => (must_k _ _).bind fun _ _ => trivial
theorem namedF_k (h : RecK r) (l : List Tok) : (namedF r l).K := by
  unfold namedF
  refine (name_k _).bind fun s l1 => .ite ?_ (.ite ?_ (setF_k h _ _ _))
  · exact (h.expr _).bind fun _ _ => (must_k _ _).bind fun _ _ => (must_k _ _).bind fun _ _ => (h.expr _).bind fun _ _ => (must_k _ _).bind fun _ _ => trivial
  · exact (h.args _ _).bind fun _ _ => (must_k _ _).bind fun _ _ => trivial
theorem plainF_k (h : RecK r) (k : Int) (l : List Tok) : (plainF r k l).K := (h.expr _).bind fun _ _ => (must_k _ _).bind fun _ _ => trivial
theorem step_k (h : RecK r) : RecK (step r) where
  expr l := (h.bin _ _).bind fun _ _ => .ite ((h.expr _).bind fun _ _ => (must_k _ _).bind fun _ _ => (h.expr _).bind fun _ _ => trivial) trivial
  bin k l := .ite (h.un _) ((h.bin _ _).bind fun _ _ => h.loop _ _ _)
  loop k x l := by
    cases l with
    | nil => trivial
    | cons t l => exact .ite ((h.bin _ _).bind fun _ _ => h.loop _ _ _) trivial
  un l := by
    show (unF r l).K
    unfold unF
    refine .ite ((h.un _).bind fun _ _ => trivial) (.ite ((h.un _).bind fun _ _ => trivial) (.ite ((number_k _).bind fun _ _ => trivial) (.ite ?_ ?_)))
    · exact (h.expr _).bind fun _ _ => (must_k _ _).bind fun _ _ => trivial
    · exact (name_k _).bind fun _ _ => .ite ((h.expr _).bind fun _ _ => (must_k _ _).bind fun _ _ => trivial) (.ite ((h.args _ _).bind fun _ _ => trivial) trivial)
  args xs l := by
    show (argsF r xs l).K
    unfold argsF
    exact .ite trivial (R.K.bind (.ite trivial (must_k _ _)) fun _ _ => R.K.bind (.ite (few_k _ _ _) trivial) fun _ _ => (h.expr _).bind fun _ _ => h.args _ _)
  stmt l := by
    show (stmtF r l).K
    unfold stmtF
    refine .ite (namedF_k h _) (.ite (plainF_k h _ _) (.ite (plainF_k h _ _) (.ite (plainF_k h _ _) (.ite ?_ (.ite (h.branch _) (.ite ?_ (.ite ?_ (.ite ?_ (.inr rfl)))))))))
    · exact (name_k _).bind fun _ _ => setF_k h _ _ _
    · exact (h.expr _).bind fun _ _ => (blockF_k h _).bind fun _ _ => trivial
    · exact (name_k _).bind fun _ _ => (must_k _ _).bind fun _ _ => (h.expr _).bind fun _ _ => (must_k _ _).bind fun _ _ => (h.expr _).bind fun _ _ => (blockF_k h _).bind fun _ _ => trivial
    · exact (blockF_k h _).bind fun _ _ => (must_k _ _).bind fun _ _ => (name_k _).bind fun _ _ => (blockF_k h _).bind fun _ _ => trivial
  stmts xs l := .ite trivial ((h.stmt _).bind fun _ _ => h.stmts _ _)
  branch l := (must_k _ _).bind fun _ _ => (h.expr _).bind fun _ _ => (blockF_k h _).bind fun _ _ => .ite (.ite ((h.branch _).bind fun _ _ => trivial) ((blockF_k h _).bind fun _ _ => trivial)) trivial
end
theorem gram_k : ∀ n, RecK (gram n)
  | 0 => ⟨fun _ => trivial, fun _ _ => trivial, fun _ _ _ => trivial, fun _ => trivial, fun _ _ => trivial, fun _ => trivial, fun _ _ => trivial, fun _ => trivial⟩
  | n + 1 => step_k (gram_k n)
theorem array_k (l : List Tok) : (array l).K := (must_k _ _).bind fun _ _ => (name_k _).bind fun _ _ => (must_k _ _).bind fun _ _ => (number_k _).bind fun _ _ => (must_k _ _).bind fun _ _ => (must_k _ _).bind fun _ _ => trivial
theorem paramsF_k : ∀ n xs l, (paramsF n xs l).K
  | 0, _, _ => trivial
  | n + 1, xs, l => by
    unfold paramsF
    exact .ite trivial (R.K.bind (.ite trivial (must_k _ _)) fun _ _ => R.K.bind (.ite (few_k _ _ _) trivial) fun _ _ => (name_k _).bind fun _ _ => paramsF_k n _ _)
theorem func_k (n : Nat) (l : List Tok) : (func n l).K := (must_k _ _).bind fun _ _ => (name_k _).bind fun _ _ => (must_k _ _).bind fun _ _ => (paramsF_k _ _ _).bind fun _ _ => (blockF_k (gram_k n) _).bind fun _ _ => trivial
theorem prog_k (n : Nat) : ∀ m as fs l, (prog n m as fs l).K
  | 0, _, _, _ => trivial
  | m + 1, as, fs, l => by
    unfold prog
    exact .ite trivial (.ite ((few_k _ _ _).bind fun _ _ => (array_k _).bind fun _ _ => prog_k n m _ _ _) (.ite ((few_k _ _ _).bind fun _ _ => (func_k _ _).bind fun _ _ => prog_k n m _ _ _) (.inr rfl)))
end Bir
