/- The grammar does not look at offsets. -/
import Derived.Test.YtdijffojppjmfaaDoorRb
set_option linter.unusedVariables false
set_option linter.unusedSimpArgs false
namespace Bir
def R.map {α : Type} (f : Tok → Tok) : R α → R α
  | .out => .out
  | .err l k => .err (l.map f) k
  | .ok x l => .ok x (l.map f)
/-- A turn of tokens that leaves kind and text. -/
structure Turn (f : Tok → Tok) : Prop where
  kind : ∀ t, (f t).kind = t.kind
  text : ∀ t, (f t).text = t.text
section
variable {α β : Type} {φ : Tok → Tok}
theorem R.bind_map {a b : R α} {f g : α → List Tok → R β} (h : b = a.map φ) (hf : ∀ x l, g x (l.map φ) = (f x l).map φ) : b.bind g = (a.bind f).map φ := by
  subst h
  cases a with
  | out => rfl
  | err l k => rfl
  | ok x l => exact hf x l
theorem R.ite_map {p p' : Prop} [Decidable p] [Decidable p'] {a b c d : R α} (hp : p ↔ p') (h1 : c = a.map φ) (h2 : d = b.map φ) : (if p' then c else d) = (if p then a else b).map φ := by
  by_cases h : p
  · rw [if_pos h, if_pos (hp.1 h)]; exact h1
  · rw [if_neg h, if_neg (fun k => h (hp.2 k))]; exact h2
theorem is_map (T : Turn φ) (s : Str) (l : List Tok) : is s (l.map φ) = is s l := by
  cases l with
  | nil => rfl
  | cons t l => simp [is, T.kind, T.text]
theorem kind_map (T : Turn φ) (l : List Tok) : kindOf (l.map φ) = kindOf l := by
  cases l with
  | nil => rfl
  | cons t l => exact T.kind t
theorem begins_map (T : Turn φ) (l : List Tok) : begins (l.map φ) = begins l := by simp [begins, kind_map T, is_map T]
theorem tail_map (l : List Tok) : (l.map φ).tail = l.tail.map φ := by cases l <;> rfl
theorem is_iff (T : Turn φ) (s : Str) (l : List Tok) : is s l = true ↔ is s (l.map φ) = true := by rw [is_map T]
theorem must_map (T : Turn φ) (s : Str) (l : List Tok) : must s (l.map φ) = (must s l).map φ := by
  unfold must
  exact R.ite_map (is_iff T s l) (by rw [tail_map]; rfl) rfl
theorem name_map (T : Turn φ) (l : List Tok) : name (l.map φ) = (name l).map φ := by
  cases l with
  | nil => rfl
  | cons t l =>
    unfold name
    simp only [List.map_cons, T.kind, T.text]
    exact R.ite_map Iff.rfl (R.ite_map Iff.rfl rfl rfl) rfl
theorem number_map (T : Turn φ) (l : List Tok) : number (l.map φ) = (number l).map φ := by
  cases l with
  | nil => rfl
  | cons t l =>
    unfold number
    simp only [List.map_cons, T.kind, T.text]
    refine R.ite_map Iff.rfl ?_ rfl
    cases value t.text <;> rfl
theorem few_map (n m : Nat) (l : List Tok) : few n m (l.map φ) = (few n m l).map φ := R.ite_map Iff.rfl rfl rfl
structure MapR (φ : Tok → Tok) (r : Rec) : Prop where
  expr : ∀ l, r.expr (l.map φ) = (r.expr l).map φ
  bin : ∀ k l, r.bin k (l.map φ) = (r.bin k l).map φ
  loop : ∀ k x l, r.loop k x (l.map φ) = (r.loop k x l).map φ
  un : ∀ l, r.un (l.map φ) = (r.un l).map φ
  args : ∀ xs l, r.args xs (l.map φ) = (r.args xs l).map φ
  stmt : ∀ l, r.stmt (l.map φ) = (r.stmt l).map φ
  stmts : ∀ xs l, r.stmts xs (l.map φ) = (r.stmts xs l).map φ
  branch : ∀ l, r.branch (l.map φ) = (r.branch l).map φ
variable {r : Rec}
theorem blockF_map (T : Turn φ) (h : MapR φ r) (l : List Tok) : blockF r (l.map φ) = (blockF r l).map φ := by
  unfold blockF
  exact R.bind_map (must_map T _ _) fun _ _ => h.stmts _ _
theorem setF_map (T : Turn φ) (h : MapR φ r) (k : Int) (s : Str) (l : List Tok) : setF r k s (l.map φ) = (setF r k s l).map φ := by
  unfold setF
  exact R.bind_map (must_map T _ _) fun _ _ => R.bind_map (h.expr _) fun _ _ => R.bind_map (must_map T _ _) fun _ _ => rfl
theorem namedF_map (T : Turn φ) (h : MapR φ r) (l : List Tok) : namedF r (l.map φ) = (namedF r l).map φ := by
  unfold namedF
  refine R.bind_map (name_map T _) fun _ l1 => ?_
  rw [tail_map]
  refine R.ite_map (is_iff T _ _) ?_ (R.ite_map (is_iff T _ _) ?_ (setF_map T h _ _ _))
  · exact R.bind_map (h.expr _) fun _ _ => R.bind_map (must_map T _ _) fun _ _ => R.bind_map (must_map T _ _) fun _ _ => R.bind_map (h.expr _) fun _ _ => R.bind_map (must_map T _ _) fun _ _ => rfl
  · exact R.bind_map (h.args _ _) fun _ _ => R.bind_map (must_map T _ _) fun _ _ => rfl
theorem plainF_map (T : Turn φ) (h : MapR φ r) (k : Int) (l : List Tok) : plainF r k (l.map φ) = (plainF r k l).map φ := by
  unfold plainF
  exact R.bind_map (h.expr _) fun _ _ => R.bind_map (must_map T _ _) fun _ _ => rfl
theorem step_map (T : Turn φ) (h : MapR φ r) : MapR φ (step r) where
  expr l := by
    show exprF r _ = (exprF r l).map φ
    unfold exprF
    refine R.bind_map (h.bin _ _) fun _ l1 => ?_
    rw [tail_map]
    exact R.ite_map (is_iff T _ _) (R.bind_map (h.expr _) fun _ _ => R.bind_map (must_map T _ _) fun _ _ => R.bind_map (h.expr _) fun _ _ => rfl) rfl
  bin k l := by
    show binF r k _ = (binF r k l).map φ
    unfold binF
    exact R.ite_map Iff.rfl (h.un _) (R.bind_map (h.bin _ _) fun _ _ => h.loop _ _ _)
  loop k x l := by
    show loopF r k x _ = (loopF r k x l).map φ
    cases l with
    | nil => rfl
    | cons t l =>
      unfold loopF
      simp only [List.map_cons, T.kind, T.text]
      exact R.ite_map Iff.rfl (R.bind_map (h.bin _ _) fun _ _ => h.loop _ _ _) rfl
  un l := by
    show unF r _ = (unF r l).map φ
    unfold unF
    rw [kind_map T, tail_map]
    refine R.ite_map (is_iff T _ _) ?_ (R.ite_map (is_iff T _ _) ?_ (R.ite_map Iff.rfl ?_ (R.ite_map (is_iff T _ _) ?_ ?_)))
    · exact R.bind_map (h.un _) fun _ _ => rfl
    · exact R.bind_map (h.un _) fun _ _ => rfl
    · exact R.bind_map (number_map T _) fun _ _ => rfl
    · exact R.bind_map (h.expr _) fun _ _ => R.bind_map (must_map T _ _) fun _ _ => rfl
    · refine R.bind_map (name_map T _) fun _ l1 => ?_
      rw [tail_map]
      refine R.ite_map (is_iff T _ _) ?_ (R.ite_map (is_iff T _ _) ?_ rfl)
      · exact R.bind_map (h.expr _) fun _ _ => R.bind_map (must_map T _ _) fun _ _ => rfl
      · exact R.bind_map (h.args _ _) fun _ _ => rfl
  args xs l := by
    show argsF r xs _ = (argsF r xs l).map φ
    unfold argsF
    rw [tail_map]
    refine R.ite_map (is_iff T _ _) rfl (R.bind_map (R.ite_map Iff.rfl rfl (must_map T _ _)) fun _ l1 => ?_)
    rw [begins_map T]
    exact R.bind_map (R.ite_map Iff.rfl (few_map _ _ _) rfl) fun _ _ => R.bind_map (h.expr _) fun _ _ => h.args _ _
  stmt l := by
    show stmtF r _ = (stmtF r l).map φ
    unfold stmtF
    rw [kind_map T, tail_map]
    refine R.ite_map Iff.rfl (namedF_map T h _) (R.ite_map (is_iff T _ _) (plainF_map T h _ _) (R.ite_map (is_iff T _ _) (plainF_map T h _ _) (R.ite_map (is_iff T _ _) (plainF_map T h _ _) (R.ite_map (is_iff T _ _) ?_ (R.ite_map (is_iff T _ _) (h.branch _) (R.ite_map (is_iff T _ _) ?_ (R.ite_map (is_iff T _ _) ?_ (R.ite_map (is_iff T _ _) ?_ rfl))))))))
    · exact R.bind_map (name_map T _) fun _ _ => setF_map T h _ _ _
    · exact R.bind_map (h.expr _) fun _ _ => R.bind_map (blockF_map T h _) fun _ _ => rfl
    · exact R.bind_map (name_map T _) fun _ _ => R.bind_map (must_map T _ _) fun _ _ => R.bind_map (h.expr _) fun _ _ => R.bind_map (must_map T _ _) fun _ _ => R.bind_map (h.expr _) fun _ _ => R.bind_map (blockF_map T h _) fun _ _ => rfl
    · exact R.bind_map (blockF_map T h _) fun _ _ => R.bind_map (must_map T _ _) fun _ _ => R.bind_map (name_map T _) fun _ _ => R.bind_map (blockF_map T h _) fun _ _ => rfl
  stmts xs l := by
    show stmtsF r xs _ = (stmtsF r xs l).map φ
    unfold stmtsF
    rw [tail_map]
    exact R.ite_map (is_iff T _ _) rfl (R.bind_map (h.stmt _) fun _ _ => h.stmts _ _)
  branch l := by
    show branchF r _ = (branchF r l).map φ
    unfold branchF
    refine R.bind_map (must_map T _ _) fun _ _ => R.bind_map (h.expr _) fun _ _ => R.bind_map (blockF_map T h _) fun _ l3 => ?_
    rw [tail_map]
    exact R.ite_map (is_iff T _ _) (R.ite_map (is_iff T _ _) (R.bind_map (h.branch _) fun _ _ => rfl) (R.bind_map (blockF_map T h _) fun _ _ => rfl)) rfl
theorem gram_map (T : Turn φ) : ∀ n, MapR φ (gram n)
  | 0 => ⟨fun _ => rfl, fun _ _ => rfl, fun _ _ _ => rfl, fun _ => rfl, fun _ _ => rfl, fun _ => rfl, fun _ _ => rfl, fun _ => rfl⟩
  | n + 1 => step_map T (gram_map T n)
theorem array_map (T : Turn φ) (l : List Tok) : array (l.map φ) = (array l).map φ := by
  unfold array
  exact R.bind_map (must_map T _ _) fun _ _ => R.bind_map (name_map T _) fun _ _ => R.bind_map (must_map T _ _) fun _ _ => R.bind_map (number_map T _) fun _ _ => R.bind_map (must_map T _ _) fun _ _ => R.bind_map (must_map T _ _) fun _ _ => rfl
theorem paramsF_map (T : Turn φ) : ∀ n xs l, paramsF n xs (l.map φ) = (paramsF n xs l).map φ
  | 0, _, _ => rfl
  | n + 1, xs, l => by
    unfold paramsF
    rw [tail_map]
    refine R.ite_map (is_iff T _ _) rfl (R.bind_map (R.ite_map Iff.rfl rfl (must_map T _ _)) fun _ l1 => ?_)
    rw [kind_map T]
    exact R.bind_map (R.ite_map Iff.rfl (few_map _ _ _) rfl) fun _ _ => R.bind_map (name_map T _) fun _ _ => paramsF_map T n _ _
theorem func_map (T : Turn φ) (n : Nat) (l : List Tok) : func n (l.map φ) = (func n l).map φ := by
  unfold func
  exact R.bind_map (must_map T _ _) fun _ _ => R.bind_map (name_map T _) fun _ _ => R.bind_map (must_map T _ _) fun _ _ => R.bind_map (paramsF_map T _ _ _) fun _ _ => R.bind_map (blockF_map T (gram_map T n) _) fun _ _ => rfl
theorem prog_map (T : Turn φ) (n : Nat) : ∀ m as fs l, prog n m as fs (l.map φ) = (prog n m as fs l).map φ
  | 0, _, _, _ => rfl
  | m + 1, as, fs, l => by
    unfold prog
    rw [List.length_map]
    refine R.ite_map Iff.rfl rfl (R.ite_map (is_iff T _ _) ?_ (R.ite_map (is_iff T _ _) ?_ rfl))
    · exact R.bind_map (few_map _ _ _) fun _ _ => R.bind_map (array_map T _) fun _ _ => prog_map T n m _ _ _
    · exact R.bind_map (few_map _ _ _) fun _ _ => R.bind_map (func_map T _ _) fun _ _ => prog_map T n m _ _ _
end
/-- Without its offset. -/
def strip (t : Tok) : Tok := ⟨t.kind, t.text, 0⟩
theorem turn_strip : Turn strip := ⟨fun _ => rfl, fun _ => rfl⟩
theorem R.map_ok {α : Type} {φ : Tok → Tok} {a : R α} {x : α} (h : a.map φ = .ok x []) : a = .ok x [] := by
  cases a with
  | out => cases h
  | err l k => cases h
  | ok y l =>
    injection h with h1 h2
    rw [h1, List.map_eq_nil_iff.1 h2]
/-- Tokens that differ in their offsets alone are one program. -/
theorem prog_alike {n m : Nat} {l l' : List Tok} {x : Pr} (h : l.map strip = l'.map strip) (hp : prog n m [] [] l = .ok x []) : prog n m [] [] l' = .ok x [] := by
  have h1 := prog_map turn_strip n m [] [] l
  have h2 := prog_map turn_strip n m [] [] l'
  rw [h] at h1
  rw [h1, hp] at h2
  exact R.map_ok h2.symm
theorem prog_alike_err {n m k : Nat} {l l' e : List Tok} (h : l.map strip = l'.map strip) (hp : prog n m [] [] l = .err e k) : ∃ e', prog n m [] [] l' = .err e' k ∧ e'.map strip = e.map strip := by
  have h1 := prog_map turn_strip n m [] [] l
  have h2 := prog_map turn_strip n m [] [] l'
  rw [h] at h1
  rw [h1, hp] at h2
  cases hq : prog n m [] [] l' with
  | out => rw [hq] at h2; cases h2
  | err e' k' =>
    rw [hq] at h2
    injection h2 with h2 h3
    exact ⟨e', by rw [h3], h2.symm⟩
  | ok y l => rw [hq] at h2; cases h2
end Bir
