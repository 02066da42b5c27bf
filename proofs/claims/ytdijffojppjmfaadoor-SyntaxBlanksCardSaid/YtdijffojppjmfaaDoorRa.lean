/- The grammar with fuel: more fuel changes nothing; enough of it ends; what is read is consumed. -/
import Derived.Test.YtdijffojppjmfaaDoorPa
set_option linter.unusedVariables false
set_option linter.unusedSimpArgs false
namespace Bir
/-! ### more fuel -/
def R.Le {α : Type} (a b : R α) : Prop := a = .out ∨ a = b
theorem R.Le.refl {α : Type} (a : R α) : a.Le a := .inr rfl
theorem R.Le.bind {α β : Type} {a b : R α} {f g : α → List Tok → R β} (h : a.Le b) (hf : ∀ x l, (f x l).Le (g x l)) : (a.bind f).Le (b.bind g) := by
  rcases h with rfl | rfl
  · exact .inl rfl
  · cases a with
    | out => exact .inl rfl
    | err l k => exact .inr rfl
    | ok x l => exact hf x l
theorem R.Le.ite {α : Type} {p : Prop} [Decidable p] {a b c d : R α} (h1 : a.Le c) (h2 : b.Le d) : (if p then a else b).Le (if p then c else d) := by
  by_cases h : p
  · rw [if_pos h, if_pos h]; exact h1
  · rw [if_neg h, if_neg h]; exact h2
theorem R.Le.eq {α : Type} {a b : R α} (h : a.Le b) (hn : a ≠ .out) : b = a := by
  rcases h with h | h
  · exact absurd h hn
  · exact h.symm
structure Rec.Le (r s : Rec) : Prop where
  expr : ∀ l, (r.expr l).Le (s.expr l)
  bin : ∀ k l, (r.bin k l).Le (s.bin k l)
  loop : ∀ k x l, (r.loop k x l).Le (s.loop k x l)
  un : ∀ l, (r.un l).Le (s.un l)
  args : ∀ xs l, (r.args xs l).Le (s.args xs l)
  stmt : ∀ l, (r.stmt l).Le (s.stmt l)
  stmts : ∀ xs l, (r.stmts xs l).Le (s.stmts xs l)
  branch : ∀ l, (r.branch l).Le (s.branch l)
section
variable {r s : Rec}
theorem blockF_le (h : Rec.Le r s) (l : List Tok) : (blockF r l).Le (blockF s l) := by
  unfold blockF
  exact (R.Le.refl _).bind fun _ _ => h.stmts _ _
theorem setF_le (h : Rec.Le r s) (k : Int) (t : Str) (l : List Tok) : (setF r k t l).Le (setF s k t l) := by
  unfold setF
  exact (R.Le.refl _).bind fun _ _ => (h.expr _).bind fun _ _ => .refl _
theorem namedF_le (h : Rec.Le r s) (l : List Tok) : (namedF r l).Le (namedF s l) := by
  unfold namedF
  refine (R.Le.refl _).bind fun _ _ => .ite ?_ (.ite ?_ (setF_le h _ _ _))
  · exact (h.expr _).bind fun _ _ => (R.Le.refl _).bind fun _ _ => (R.Le.refl _).bind fun _ _ => (h.expr _).bind fun _ _ => .refl _
  · exact (h.args _ _).bind fun _ _ => .refl _
theorem plainF_le (h : Rec.Le r s) (k : Int) (l : List Tok) : (plainF r k l).Le (plainF s k l) := by
  unfold plainF
  exact (h.expr _).bind fun _ _ => .refl _
theorem step_le (h : Rec.Le r s) : Rec.Le (step r) (step s) where
  expr l := by
    show (exprF r l).Le (exprF s l)
    unfold exprF
    exact (h.bin _ _).bind fun _ _ => .ite ((h.expr _).bind fun _ _ => (R.Le.refl _).bind fun _ _ => (h.expr _).bind fun _ _ => .refl _) (.refl _)
  bin k l := by
    show (binF r k l).Le (binF s k l)
    unfold binF
    exact .ite (h.un _) ((h.bin _ _).bind fun _ _ => h.loop _ _ _)
  loop k x l := by
    show (loopF r k x l).Le (loopF s k x l)
    cases l with
    | nil => exact .refl _
    | cons t l => exact .ite ((h.bin _ _).bind fun _ _ => h.loop _ _ _) (.refl _)
  un l := by
    show (unF r l).Le (unF s l)
    unfold unF
    refine .ite ((h.un _).bind fun _ _ => .refl _) (.ite ((h.un _).bind fun _ _ => .refl _) (.ite (.refl _) (.ite ?_ ?_)))
    · exact (h.expr _).bind fun _ _ => .refl _
    · exact (R.Le.refl _).bind fun _ _ => .ite ((h.expr _).bind fun _ _ => .refl _) (.ite ((h.args _ _).bind fun _ _ => .refl _) (.refl _))
  args xs l := by
    show (argsF r xs l).Le (argsF s xs l)
    unfold argsF
    exact .ite (.refl _) ((R.Le.refl _).bind fun _ _ => (R.Le.refl _).bind fun _ _ => (h.expr _).bind fun _ _ => h.args _ _)
  stmt l := by
    show (stmtF r l).Le (stmtF s l)
    unfold stmtF
    refine .ite (namedF_le h _) (.ite (plainF_le h _ _) (.ite (plainF_le h _ _) (.ite (plainF_le h _ _) (.ite ?_ (.ite (h.branch _) (.ite ?_ (.ite ?_ (.ite ?_ (.refl _)))))))))
    · exact (R.Le.refl _).bind fun _ _ => setF_le h _ _ _
    · exact (h.expr _).bind fun _ _ => (blockF_le h _).bind fun _ _ => .refl _
    · exact (R.Le.refl _).bind fun _ _ => (R.Le.refl _).bind fun _ _ => (h.expr _).bind fun _ _ => (R.Le.refl _).bind fun _ _ => (h.expr _).bind fun _ _ => (blockF_le h _).bind fun _ _ => .refl _
    · exact (blockF_le h _).bind fun _ _ => (R.Le.refl _).bind fun _ _ => (R.Le.refl _).bind fun _ _ => (blockF_le h _).bind fun _ _ => .refl _
  stmts xs l := by
    show (stmtsF r xs l).Le (stmtsF s xs l)
    unfold stmtsF
    exact .ite (.refl _) ((h.stmt _).bind fun _ _ => h.stmts _ _)
  branch l := by
    show (branchF r l).Le (branchF s l)
    unfold branchF
    refine (R.Le.refl _).bind fun _ _ => (h.expr _).bind fun _ _ => (blockF_le h _).bind fun _ _ => .ite (.ite ?_ ?_) (.refl _)
    · exact (h.branch _).bind fun _ _ => .refl _
    · exact (blockF_le h _).bind fun _ _ => .refl _
end
theorem gram_le : ∀ n m, n ≤ m → Rec.Le (gram n) (gram m)
  | 0, _, _ => ⟨fun _ => .inl rfl, fun _ _ => .inl rfl, fun _ _ _ => .inl rfl, fun _ => .inl rfl, fun _ _ => .inl rfl, fun _ => .inl rfl, fun _ _ => .inl rfl, fun _ => .inl rfl⟩
  | n + 1, 0, h => absurd h (by omega)
  | n + 1, m + 1, h => step_le (gram_le n m (by omega))
theorem paramsF_le : ∀ n m xs l, n ≤ m → (paramsF n xs l).Le (paramsF m xs l)
  | 0, _, _, _, _ => .inl rfl
  | n + 1, 0, _, _, h => absurd h (by omega)
  | n + 1, m + 1, xs, l, h => by
    unfold paramsF
    exact .ite (.refl _) ((R.Le.refl _).bind fun _ _ => (R.Le.refl _).bind fun _ _ => (R.Le.refl _).bind fun _ _ => paramsF_le n m _ _ (by omega))
theorem func_le {n m : Nat} (h : n ≤ m) (l : List Tok) : (func n l).Le (func m l) := by
  unfold func
  exact (R.Le.refl _).bind fun _ _ => (R.Le.refl _).bind fun _ _ => (R.Le.refl _).bind fun _ _ => (paramsF_le n m _ _ h).bind fun _ _ => (blockF_le (gram_le n m h) _).bind fun _ _ => .refl _
theorem prog_le {n n' : Nat} (h : n ≤ n') : ∀ m m' as fs l, m ≤ m' → (prog n m as fs l).Le (prog n' m' as fs l)
  | 0, _, _, _, _, _ => .inl rfl
  | m + 1, 0, _, _, _, h => absurd h (by omega)
  | m + 1, m' + 1, as, fs, l, h1 => by
    unfold prog
    refine .ite (.refl _) (.ite ?_ (.ite ?_ (.refl _)))
    · exact (R.Le.refl _).bind fun _ _ => (R.Le.refl _).bind fun _ _ => prog_le h m m' _ _ _ (by omega)
    · exact (R.Le.refl _).bind fun _ _ => (func_le h _).bind fun _ _ => prog_le h m m' _ _ _ (by omega)

/-! ### enough fuel -/
/-- It ends, and fewer than k tokens are left. -/
def R.Lt {α : Type} (k : Nat) : R α → Prop
  | .out => False
  | .err _ _ => True
  | .ok _ l => l.length < k
theorem R.Lt.bind {α β : Type} {a : R α} {f : α → List Tok → R β} {j k : Nat} (h : a.Lt j) (hf : ∀ x l, l.length < j → (f x l).Lt k) : (a.bind f).Lt k := by
  cases a with
  | out => exact h.elim
  | err l e => trivial
  | ok x l => exact hf x l h
theorem R.Lt.ite {α : Type} {p : Prop} [Decidable p] {a b : R α} {k : Nat} (h1 : p → a.Lt k) (h2 : ¬ p → b.Lt k) : (if p then a else b).Lt k := by
  by_cases h : p
  · rw [if_pos h]; exact h1 h
  · rw [if_neg h]; exact h2 h
theorem R.Lt.ne {α : Type} {a : R α} {k : Nat} (h : a.Lt k) : a ≠ .out := by
  rintro rfl
  exact h
theorem lt_mono {α : Type} {a : R α} {j k : Nat} (h : a.Lt j) (hk : j ≤ k) : a.Lt k := by
  cases a with
  | out => exact h
  | err l e => exact h
  | ok x l => exact Nat.lt_of_lt_of_le h hk
theorem is_pos {s : Str} {l : List Tok} (h : is s l = true) : l.tail.length < l.length := by
  cases l with
  | nil => cases h
  | cons t l => simp
theorem must_lt (s : Str) (l : List Tok) : (must s l).Lt l.length := .ite (fun h => is_pos h) (fun _ => trivial)
theorem name_lt (l : List Tok) : (name l).Lt l.length := by
  cases l with
  | nil => trivial
  | cons t l => exact .ite (fun _ => .ite (fun _ => trivial) (fun _ => Nat.lt_succ_self _)) (fun _ => trivial)
theorem number_lt (l : List Tok) : (number l).Lt l.length := by
  cases l with
  | nil => trivial
  | cons t l =>
    refine .ite (fun _ => ?_) (fun _ => trivial)
    cases value t.text with
    | none => trivial
    | some n => exact Nat.lt_succ_self _
theorem few_lt (n m : Nat) (l : List Tok) : (few n m l).Lt (l.length + 1) := .ite (fun _ => trivial) (fun _ => Nat.lt_succ_self _)
theorem ok_lt {α : Type} (x : α) {l : List Tok} {k : Nat} (h : l.length < k) : (R.ok x l).Lt k := h
structure Fuel (n : Nat) : Prop where
  expr : ∀ l, 16 * l.length + 13 ≤ n → ((gram n).expr l).Lt l.length
  bin : ∀ k l, 16 * l.length + 2 + (11 - k) ≤ n → ((gram n).bin k l).Lt l.length
  loop : ∀ k x l, 16 * l.length + 1 ≤ n → ((gram n).loop k x l).Lt (l.length + 1)
  un : ∀ l, 16 * l.length + 1 ≤ n → ((gram n).un l).Lt l.length
  args : ∀ xs l, 16 * l.length + 14 ≤ n → ((gram n).args xs l).Lt l.length
  stmt : ∀ l, 16 * l.length + 2 ≤ n → ((gram n).stmt l).Lt l.length
  stmts : ∀ xs l, 16 * l.length + 3 ≤ n → ((gram n).stmts xs l).Lt l.length
  branch : ∀ l, 16 * l.length + 1 ≤ n → ((gram n).branch l).Lt l.length
section
variable {n : Nat}
theorem blockF_lt (ih : Fuel n) (l : List Tok) (h : 16 * l.length ≤ n + 13) : (blockF (gram n) l).Lt l.length := by
  unfold blockF
  exact (must_lt _ _).bind fun _ l1 h1 => lt_mono (ih.stmts [] l1 (by omega)) (by omega)
theorem fuel_expr (ih : Fuel n) (l : List Tok) (h : 16 * l.length + 12 ≤ n) : (exprF (gram n) l).Lt l.length := by
  unfold exprF
  refine (ih.bin _ _ (by omega)).bind fun x l1 h1 => .ite (fun hi => ?_) (fun _ => h1)
  have := is_pos hi
  exact (ih.expr _ (by omega)).bind fun _ l2 h2 => (must_lt _ _).bind fun _ l3 h3 => (ih.expr _ (by omega)).bind fun _ l4 h4 => ok_lt _ (by omega)
theorem fuel_bin (ih : Fuel n) (k : Nat) (l : List Tok) (h : 16 * l.length + 1 + (11 - k) ≤ n) : (binF (gram n) k l).Lt l.length := by
  unfold binF
  refine .ite (fun _ => ih.un _ (by omega)) (fun hk => (ih.bin _ _ (by omega)).bind fun x l1 h1 => ?_)
  exact lt_mono (ih.loop k x l1 (by omega)) (by omega)
theorem fuel_loop (ih : Fuel n) (k : Nat) (x : Ex) (l : List Tok) (h : 16 * l.length ≤ n) : (loopF (gram n) k x l).Lt (l.length + 1) := by
  cases l with
  | nil => exact Nat.lt_succ_self _
  | cons t l =>
    simp only [List.length_cons] at h ⊢
    refine .ite (fun _ => (ih.bin _ _ (by omega)).bind fun y l1 h1 => ?_) (fun _ => Nat.lt_succ_self _)
    exact lt_mono (ih.loop k (.mk 6 0 t.text [x, y]) l1 (by omega)) (by omega)
theorem fuel_un (ih : Fuel n) (l : List Tok) (h : 16 * l.length ≤ n) : (unF (gram n) l).Lt l.length := by
  unfold unF
  refine .ite (fun hi => ?_) (fun _ => .ite (fun hi => ?_) (fun _ => .ite (fun hi => ?_) (fun _ => .ite (fun hi => ?_) (fun _ => ?_))))
  · have := is_pos hi
    exact (ih.un _ (by omega)).bind fun _ l1 h1 => ok_lt _ (by omega)
  · have := is_pos hi
    exact (ih.un _ (by omega)).bind fun _ l1 h1 => ok_lt _ (by omega)
  · exact (number_lt _).bind fun _ l1 h1 => ok_lt _ h1
  · have := is_pos hi
    exact (ih.expr _ (by omega)).bind fun _ l1 h1 => (must_lt _ _).bind fun _ l2 h2 => ok_lt _ (by omega)
  · refine (name_lt _).bind fun s l1 h1 => .ite (fun hi => ?_) (fun _ => .ite (fun hi => ?_) (fun _ => ok_lt _ h1))
    · have := is_pos hi
      exact (ih.expr _ (by omega)).bind fun _ l2 h2 => (must_lt _ _).bind fun _ l3 h3 => ok_lt _ (by omega)
    · have := is_pos hi
      exact (ih.args _ _ (by omega)).bind fun _ l2 h2 => ok_lt _ (by omega)
theorem fuel_args (ih : Fuel n) (xs : List Ex) (l : List Tok) (h : 16 * l.length + 13 ≤ n) : (argsF (gram n) xs l).Lt l.length := by
  unfold argsF
  refine .ite (fun hi => is_pos hi) (fun _ => ?_)
  refine R.Lt.bind (j := l.length + 1) ?_ fun _ l1 h1 => R.Lt.bind (j := l.length + 1) ?_ fun _ l2 h2 => (ih.expr _ (by omega)).bind fun x l3 h3 => lt_mono (ih.args (xs ++ [x]) l3 (by omega)) (by omega)
  · exact .ite (fun _ => ok_lt _ (Nat.lt_succ_self _)) (fun _ => lt_mono (must_lt _ _) (by omega))
  · exact .ite (fun _ => lt_mono (few_lt _ _ _) (by omega)) (fun _ => ok_lt _ h1)
theorem setF_lt (ih : Fuel n) (k : Int) (s : Str) (l : List Tok) (h : 16 * l.length ≤ n + 3) : (setF (gram n) k s l).Lt l.length := by
  unfold setF
  exact (must_lt _ _).bind fun _ l1 h1 => (ih.expr _ (by omega)).bind fun _ l2 h2 => (must_lt _ _).bind fun _ l3 h3 => ok_lt _ (by omega)
theorem namedF_lt (ih : Fuel n) (l : List Tok) (h : 16 * l.length ≤ n) : (namedF (gram n) l).Lt l.length := by
  unfold namedF
  refine (name_lt _).bind fun s l1 h1 => .ite (fun hi => ?_) (fun _ => .ite (fun hi => ?_) (fun _ => lt_mono (setF_lt ih _ _ _ (by omega)) (by omega)))
  · have := is_pos hi
    exact (ih.expr _ (by omega)).bind fun _ l2 h2 => (must_lt _ _).bind fun _ l3 h3 => (must_lt _ _).bind fun _ l4 h4 => (ih.expr _ (by omega)).bind fun _ l5 h5 => (must_lt _ _).bind fun _ l6 h6 => ok_lt _ (by omega)
  · have := is_pos hi
    exact (ih.args _ _ (by omega)).bind fun _ l2 h2 => (must_lt _ _).bind fun _ l3 h3 => ok_lt _ (by omega)
theorem plainF_lt (ih : Fuel n) (k : Int) (l : List Tok) (h : 16 * l.length + 13 ≤ n) : (plainF (gram n) k l).Lt l.length := by
  unfold plainF
  exact (ih.expr _ (by omega)).bind fun _ l1 h1 => (must_lt _ _).bind fun _ l2 h2 => ok_lt _ (by omega)
theorem fuel_branch (ih : Fuel n) (l : List Tok) (h : 16 * l.length ≤ n) : (branchF (gram n) l).Lt l.length := by
  unfold branchF
  refine (must_lt _ _).bind fun _ l1 h1 => (ih.expr _ (by omega)).bind fun _ l2 h2 => (blockF_lt ih _ (by omega)).bind fun _ l3 h3 => .ite (fun hi => .ite (fun hj => ?_) (fun _ => ?_)) (fun _ => ok_lt _ (by omega))
  · have := is_pos hi
    exact (ih.branch _ (by omega)).bind fun _ l4 h4 => ok_lt _ (by omega)
  · have := is_pos hi
    exact (blockF_lt ih _ (by omega)).bind fun _ l4 h4 => ok_lt _ (by omega)
theorem fuel_stmt (ih : Fuel n) (l : List Tok) (h : 16 * l.length + 1 ≤ n) : (stmtF (gram n) l).Lt l.length := by
  unfold stmtF
  refine .ite (fun _ => namedF_lt ih _ (by omega)) (fun _ => .ite (fun hi => ?_) (fun _ => .ite (fun hi => ?_) (fun _ => .ite (fun hi => ?_) (fun _ => .ite (fun hi => ?_) (fun _ => .ite (fun _ => ih.branch _ (by omega)) (fun _ => .ite (fun hi => ?_) (fun _ => .ite (fun hi => ?_) (fun _ => .ite (fun hi => ?_) (fun _ => trivial)))))))))
  · have := is_pos hi
    exact lt_mono (plainF_lt ih _ _ (by omega)) (by omega)
  · have := is_pos hi
    exact lt_mono (plainF_lt ih _ _ (by omega)) (by omega)
  · have := is_pos hi
    exact lt_mono (plainF_lt ih _ _ (by omega)) (by omega)
  · have := is_pos hi
    exact (name_lt _).bind fun _ l1 h1 => lt_mono (setF_lt ih _ _ _ (by omega)) (by omega)
  · have := is_pos hi
    exact (ih.expr _ (by omega)).bind fun _ l1 h1 => (blockF_lt ih _ (by omega)).bind fun _ l2 h2 => ok_lt _ (by omega)
  · have := is_pos hi
    exact (name_lt _).bind fun _ l1 h1 => (must_lt _ _).bind fun _ l2 h2 => (ih.expr _ (by omega)).bind fun _ l3 h3 => (must_lt _ _).bind fun _ l4 h4 => (ih.expr _ (by omega)).bind fun _ l5 h5 => (blockF_lt ih _ (by omega)).bind fun _ l6 h6 => ok_lt _ (by omega)
  · have := is_pos hi
    exact (blockF_lt ih _ (by omega)).bind fun _ l1 h1 => (must_lt _ _).bind fun _ l2 h2 => (name_lt _).bind fun _ l3 h3 => (blockF_lt ih _ (by omega)).bind fun _ l4 h4 => ok_lt _ (by omega)
theorem fuel_stmts (ih : Fuel n) (xs : List St) (l : List Tok) (h : 16 * l.length + 2 ≤ n) : (stmtsF (gram n) xs l).Lt l.length := by
  unfold stmtsF
  exact .ite (fun hi => is_pos hi) (fun _ => (ih.stmt _ (by omega)).bind fun x l1 h1 => lt_mono (ih.stmts _ _ (by omega)) (by omega))
end
theorem fuel : ∀ n, Fuel n
  | 0 => ⟨fun l h => absurd h (by omega), fun k l h => absurd h (by omega), fun k x l h => absurd h (by omega), fun l h => absurd h (by omega), fun xs l h => absurd h (by omega), fun l h => absurd h (by omega), fun xs l h => absurd h (by omega), fun l h => absurd h (by omega)⟩
  | n + 1 => by
    have ih := fuel n
    exact ⟨fun l h => fuel_expr ih l (by omega), fun k l h => fuel_bin ih k l (by omega), fun k x l h => fuel_loop ih k x l (by omega), fun l h => fuel_un ih l (by omega), fun xs l h => fuel_args ih xs l (by omega),
      fun l h => fuel_stmt ih l (by omega), fun xs l h => fuel_stmts ih xs l (by omega), fun l h => fuel_branch ih l (by omega)⟩
theorem paramsF_lt : ∀ n xs l, l.length < n → (paramsF n xs l).Lt l.length
  | 0, _, _, h => absurd h (by omega)
  | n + 1, xs, l, h => by
    unfold paramsF
    refine .ite (fun hi => is_pos hi) (fun _ => ?_)
    refine R.Lt.bind (j := l.length + 1) ?_ fun _ l1 h1 => R.Lt.bind (j := l.length + 1) ?_ fun _ l2 h2 => (name_lt _).bind fun x l3 h3 => lt_mono (paramsF_lt n _ l3 (by omega)) (by omega)
    · exact .ite (fun _ => ok_lt _ (Nat.lt_succ_self _)) (fun _ => lt_mono (must_lt _ _) (by omega))
    · exact .ite (fun _ => lt_mono (few_lt _ _ _) (by omega)) (fun _ => ok_lt _ h1)
theorem func_lt (n : Nat) (l : List Tok) (h : 16 * l.length + 16 ≤ n) : (func n l).Lt l.length := by
  unfold func
  exact (must_lt _ _).bind fun _ l1 h1 => (name_lt _).bind fun _ l2 h2 => (must_lt _ _).bind fun _ l3 h3 => (paramsF_lt n _ _ (by omega)).bind fun _ l4 h4 => (blockF_lt (fuel n) _ (by omega)).bind fun _ l5 h5 => ok_lt _ (by omega)
theorem array_lt (l : List Tok) : (array l).Lt l.length := by
  unfold array
  exact (must_lt _ _).bind fun _ l1 h1 => (name_lt _).bind fun _ l2 h2 => (must_lt _ _).bind fun _ l3 h3 => (number_lt _).bind fun _ l4 h4 => (must_lt _ _).bind fun _ l5 h5 => (must_lt _ _).bind fun _ l6 h6 => ok_lt _ (by omega)
theorem prog_lt (n : Nat) : ∀ m as fs l, 16 * l.length + 16 ≤ n → l.length < m → (prog n m as fs l).Lt (l.length + 1)
  | 0, _, _, _, _, h => absurd h (by omega)
  | m + 1, as, fs, l, hn, h => by
    unfold prog
    refine .ite (fun _ => ok_lt _ (by simp)) (fun _ => .ite (fun hi => ?_) (fun _ => .ite (fun hi => ?_) (fun _ => trivial)))
    · exact (few_lt _ _ _).bind fun _ l1 h1 => (array_lt _).bind fun _ l2 h2 => lt_mono (prog_lt n m _ _ _ (by omega) (by omega)) (by omega)
    · exact (few_lt _ _ _).bind fun _ l1 h1 => (func_lt _ _ (by omega)).bind fun _ l2 h2 => lt_mono (prog_lt n m _ _ _ (by omega) (by omega)) (by omega)
/-- The fuel that is enough for all strings that are not too long. -/
def fuel0 : Nat := 1000000
theorem expr_out {l : List Tok} (h : l.length ≤ 20001) : (gram fuel0).expr l ≠ .out := ((fuel fuel0).expr l (by unfold fuel0; omega)).ne
theorem prog_out {l : List Tok} (h : l.length ≤ 20001) : prog fuel0 fuel0 [] [] l ≠ .out := (prog_lt fuel0 fuel0 [] [] l (by unfold fuel0; omega) (by unfold fuel0; omega)).ne
end Bir
