/- The grammar with fuel: more fuel changes nothing; enough of it ends; what is read is consumed. Depths and sizes of trees; what is read is no larger than its tokens. Which errors a reading has. The grammar on a beginning of its tokens, and on tokens that differ in their offsets alone. The grammar does not look at offsets. Two programs, one behind the other. Whether trees are the same: as Bool functions, and plainly. How many parameters a function has that was read. -/
import Derived.Test.YtdijffojppjmfaaDoorPa
set_option linter.unusedVariables false
set_option linter.unusedSimpArgs false
namespace Bir
/-! ### more fuel -/
def R.Le {α : Type} (a b : R α) : Prop := a = .out ∨ a = b
theorem R.Le.refl {α : Type} (a : R α) : a.Le a := .inr rfl
theorem R.Le.bind {α β : Type} {a b : R α} {f g : α → List Tok → R β} (h : a.Le b) (hf : ∀ x l, (f x l).Le (g x l)) : (a.bind f).Le (b.bind g) := by
  rcases h with rfl | rfl
  · exact .inl rfl
  · cases a with
    | out => exact .inl rfl
    | err l k => exact .inr rfl
    | ok x l => exact hf x l
theorem R.Le.ite {α : Type} {p : Prop} [Decidable p] {a b c d : R α} (h1 : a.Le c) (h2 : b.Le d) : (if p then a else b).Le (if p then c else d) := by
  by_cases h : p
  · rw [if_pos h, if_pos h]; exact h1
  · rw [if_neg h, if_neg h]; exact h2
theorem R.Le.eq {α : Type} {a b : R α} (h : a.Le b) (hn : a ≠ .out) : b = a := by
  rcases h with h | h
  · exact absurd h hn
  · exact h.symm
structure Rec.Le (r s : Rec) : Prop where
  expr : ∀ l, (r.expr l).Le (s.expr l)
  bin : ∀ k l, (r.bin k l).Le (s.bin k l)
  loop : ∀ k x l, (r.loop k x l).Le (s.loop k x l)
  un : ∀ l, (r.un l).Le (s.un l)
  args : ∀ xs l, (r.args xs l).Le (s.args xs l)
  stmt : ∀ l, (r.stmt l).Le (s.stmt l)
  stmts : ∀ xs l, (r.stmts xs l).Le (s.stmts xs l)
  branch : ∀ l, (r.branch l).Le (s.branch l)
section
variable {r s : Rec}
theorem blockF_le (h : Rec.Le r s) (l : List Tok) : (blockF r l).Le (blockF s l) := by
  unfold blockF
  exact (R.Le.refl _).bind fun _ _ => h.stmts _ _
theorem setF_le (h : Rec.Le r s) (k : Int) (t : Str) (l : List Tok) : (setF r k t l).Le (setF s k t l) := by
  unfold setF
  exact (R.Le.refl _).bind fun _ _ => (h.expr _).bind fun _ _ => .refl _
theorem namedF_le (h : Rec.Le r s) (l : List Tok) : (namedF r l).Le (namedF s l) := by
  unfold namedF
  refine (R.Le.refl _).bind fun _ _ => .ite ?_ (.ite ?_ (setF_le h _ _ _))
  · exact (h.expr _).bind fun _ _ => (R.Le.refl _).bind fun _ _ => (R.Le.refl _).bind fun _ _ => (h.expr _).bind fun _ _ => .refl _
  · exact (h.args _ _).bind fun _ _ => .refl _
theorem plainF_le (h : Rec.Le r s) (k : Int) (l : List Tok) : (plainF r k l).Le (plainF s k l) := by
  unfold plainF
  exact (h.expr _).bind fun _ _ => .refl _
theorem step_le (h : Rec.Le r s) : Rec.Le (step r) (step s) where
  expr l := by
    show (exprF r l).Le (exprF s l)
    unfold exprF
    exact (h.bin _ _).bind fun _ _ => .ite ((h.expr _).bind fun _ _ => (R.Le.refl _).bind fun _ _ => (h.expr _).bind fun _ _ => .refl _) (.refl _)
  bin k l := by
    show (binF r k l).Le (binF s k l)
    unfold binF
    exact .ite (h.un _) ((h.bin _ _).bind fun _ _ => h.loop _ _ _)
  loop k x l := by
    show (loopF r k x l).Le (loopF s k x l)
    cases l with
    | nil => exact .refl _
    | cons t l => exact .ite ((h.bin _ _).bind fun _ _ => h.loop _ _ _) (.refl _)
  un l := by
    show (unF r l).Le (unF s l)
    unfold unF
    refine .ite ((h.un _).bind fun _ _ => .refl _) (.ite ((h.un _).bind fun _ _ => .refl _) (.ite (.refl _) (.ite ?_ ?_)))
    · exact (h.expr _).bind fun _ _ => .refl _
    · exact (R.Le.refl _).bind fun _ _ => .ite ((h.expr _).bind fun _ _ => .refl _) (.ite ((h.args _ _).bind fun _ _ => .refl _) (.refl _))
  args xs l := by
    show (argsF r xs l).Le (argsF s xs l)
    unfold argsF
    exact .ite (.refl _) ((R.Le.refl _).bind fun _ _ => (R.Le.refl _).bind fun _ _ => (h.expr _).bind fun _ _ => h.args _ _)
  stmt l := by
    show (stmtF r l).Le (stmtF s l)
    unfold stmtF
    refine .ite (namedF_le h _) (.ite (plainF_le h _ _) (.ite (plainF_le h _ _) (.ite (plainF_le h _ _) (.ite ?_ (.ite (h.branch _) (.ite ?_ (.ite ?_ (.ite ?_ (.refl _)))))))))
    · exact (R.Le.refl _).bind fun _ _ => setF_le h _ _ _
    · exact (h.expr _).bind fun _ _ => (blockF_le h _).bind fun _ _ => .refl _
    · exact (R.Le.refl _).bind fun _ _ => (R.Le.refl _).bind fun _ _ => (h.expr _).bind fun _ _ => (R.Le.refl _).bind fun _ _ => (h.expr _).bind fun _ _ => (blockF_le h _).bind fun _ _ => .refl _
    · exact (blockF_le h _).bind fun _ _ => (R.Le.refl _).bind fun _ _ => (R.Le.refl _).bind fun _ _ => (blockF_le h _).bind fun _ _ => .refl _
  stmts xs l := by
    show (stmtsF r xs l).Le (stmtsF s xs l)
    unfold stmtsF
    exact .ite (.refl _) ((h.stmt _).bind fun _ _ => h.stmts _ _)
  branch l := by
    show (branchF r l).Le (branchF s l)
    unfold branchF
    refine (R.Le.refl _).bind fun _ _ => (h.expr _).bind fun _ _ => (blockF_le h _).bind fun _ _ => .ite (.ite ?_ ?_) (.refl _)
    · exact (h.branch _).bind fun _ _ => .refl _
    · exact (blockF_le h _).bind fun _ _ => .refl _
end
theorem gram_le : ∀ n m, n ≤ m → Rec.Le (gram n) (gram m)
  | 0, _, _ => ⟨fun _ => .inl rfl, fun _ _ => .inl rfl, fun _ _ _ => .inl rfl, fun _ => .inl rfl, fun _ _ => .inl rfl, fun _ => .inl rfl, fun _ _ => .inl rfl, fun _ => .inl rfl⟩
  | n + 1, 0, h => absurd h (by omega)
  | n + 1, m + 1, h => step_le (gram_le n m (by omega))
theorem paramsF_le : ∀ n m xs l, n ≤ m → (paramsF n xs l).Le (paramsF m xs l)
  | 0, _, _, _, _ => .inl rfl
  | n + 1, 0, _, _, h => absurd h (by omega)
  | n + 1, m + 1, xs, l, h => by
    unfold paramsF
    exact .ite (.refl _) ((R.Le.refl _).bind fun _ _ => (R.Le.refl _).bind fun _ _ => (R.Le.refl _).bind fun _ _ => paramsF_le n m _ _ (by omega))
theorem func_le {n m : Nat} (h : n ≤ m) (l : List Tok) : (func n l).Le (func m l) := by
  unfold func
  exact (R.Le.refl _).bind fun _ _ => (R.Le.refl _).bind fun _ _ => (R.Le.refl _).bind fun _ _ => (paramsF_le n m _ _ h).bind fun _ _ => (blockF_le (gram_le n m h) _).bind fun _ _ => .refl _
theorem prog_le {n n' : Nat} (h : n ≤ n') : ∀ m m' as fs l, m ≤ m' → (prog n m as fs l).Le (prog n' m' as fs l)
  | 0, _, _, _, _, _ => .inl rfl
  | m + 1, 0, _, _, _, h => absurd h (by omega)
  | m + 1, m' + 1, as, fs, l, h1 => by
    unfold prog
    refine .ite (.refl _) (.ite ?_ (.ite ?_ (.refl _)))
    · exact (R.Le.refl _).bind fun _ _ => (R.Le.refl _).bind fun _ _ => prog_le h m m' _ _ _ (by omega)
    · exact (R.Le.refl _).bind fun _ _ => (func_le h _).bind fun _ _ => prog_le h m m' _ _ _ (by omega)

/-! ### enough fuel -/
/-- It ends, and fewer than k tokens are left. -/
def R.Lt {α : Type} (k : Nat) : R α → Prop
  | .out => False
  | .err _ _ => True
  | .ok _ l => l.length < k
theorem R.Lt.bind {α β : Type} {a : R α} {f : α → List Tok → R β} {j k : Nat} (h : a.Lt j) (hf : ∀ x l, l.length < j → (f x l).Lt k) : (a.bind f).Lt k := by
  cases a with
  | out => exact h.elim
  | err l e => trivial
  | ok x l => exact hf x l h
theorem R.Lt.ite {α : Type} {p : Prop} [Decidable p] {a b : R α} {k : Nat} (h1 : p → a.Lt k) (h2 : ¬ p → b.Lt k) : (if p then a else b).Lt k := by
  by_cases h : p
  · rw [if_pos h]; exact h1 h
  · rw [if_neg h]; exact h2 h
theorem R.Lt.ne {α : Type} {a : R α} {k : Nat} (h : a.Lt k) : a ≠ .out := by
  rintro rfl
  exact h
theorem lt_mono {α : Type} {a : R α} {j k : Nat} (h : a.Lt j) (hk : j ≤ k) : a.Lt k := by
  cases a with
  | out => exact h
  | err l e => exact h
  | ok x l => exact Nat.lt_of_lt_of_le h hk
theorem is_pos {s : Str} {l : List Tok} (h : is s l = true) : l.tail.length < l.length := by
  cases l with
  | nil => cases h
  | cons t l => simp
theorem must_lt (s : Str) (l : List Tok) : (must s l).Lt l.length := .ite (fun h => is_pos h) (fun _ => trivial)
theorem name_lt (l : List Tok) : (name l).Lt l.length := by
  cases l with
  | nil => trivial
  | cons t l => exact .ite (fun _ => .ite (fun _ => trivial) (fun _ => Nat.lt_succ_self _)) (fun _ => trivial)
theorem number_lt (l : List Tok) : (number l).Lt l.length := by
  cases l with
  | nil => trivial
  | cons t l =>
    refine .ite (fun _ => ?_) (fun _ => trivial)
    cases value t.text with
    | none => trivial
    | some n => exact Nat.lt_succ_self _
theorem few_lt (n m : Nat) (l : List Tok) : (few n m l).Lt (l.length + 1) := .ite (fun _ => trivial) (fun _ => Nat.lt_succ_self _)
theorem ok_lt {α : Type} (x : α) {l : List Tok} {k : Nat} (h : l.length < k) : (R.ok x l).Lt k := h
structure Fuel (n : Nat) : Prop where
  expr : ∀ l, 16 * l.length + 13 ≤ n → ((gram n).expr l).Lt l.length
  bin : ∀ k l, 16 * l.length + 2 + (11 - k) ≤ n → ((gram n).bin k l).Lt l.length
  loop : ∀ k x l, 16 * l.length + 1 ≤ n → ((gram n).loop k x l).Lt (l.length + 1)
  un : ∀ l, 16 * l.length + 1 ≤ n → ((gram n).un l).Lt l.length
  args : ∀ xs l, 16 * l.length + 14 ≤ n → ((gram n).args xs l).Lt l.length
  stmt : ∀ l, 16 * l.length + 2 ≤ n → ((gram n).stmt l).Lt l.length
  stmts : ∀ xs l, 16 * l.length + 3 ≤ n → ((gram n).stmts xs l).Lt l.length
  branch : ∀ l, 16 * l.length + 1 ≤ n → ((gram n).branch l).Lt l.length
section
variable {n : Nat}
theorem blockF_lt (ih : Fuel n) (l : List Tok) (h : 16 * l.length ≤ n + 13) : (blockF (gram n) l).Lt l.length := by
  unfold blockF
  exact (must_lt _ _).bind fun _ l1 h1 => lt_mono (ih.stmts [] l1 (by omega)) (by omega)
theorem fuel_expr (ih : Fuel n) (l : List Tok) (h : 16 * l.length + 12 ≤ n) : (exprF (gram n) l).Lt l.length := by
  unfold exprF
  refine (ih.bin _ _ (by omega)).bind fun x l1 h1 => .ite (fun hi => ?_) (fun _ => h1)
  have := is_pos hi
  exact (ih.expr _ (by omega)).bind fun _ l2 h2 => (must_lt _ _).bind fun _ l3 h3 => (ih.expr _ (by omega)).bind fun _ l4 h4 => ok_lt _ (by omega)
theorem fuel_bin (ih : Fuel n) (k : Nat) (l : List Tok) (h : 16 * l.length + 1 + (11 - k) ≤ n) : (binF (gram n) k l).Lt l.length := by
  unfold binF
  refine .ite (fun _ => ih.un _ (by omega)) (fun hk => (ih.bin _ _ (by omega)).bind fun x l1 h1 => ?_)
  exact lt_mono (ih.loop k x l1 (by omega)) (by omega)
theorem fuel_loop (ih : Fuel n) (k : Nat) (x : Ex) (l : List Tok) (h : 16 * l.length ≤ n) : (loopF (gram n) k x l).Lt (l.length + 1) := by
  cases l with
  | nil => exact Nat.lt_succ_self _
  | cons t l =>
    simp only [List.length_cons] at h ⊢
    refine .ite (fun _ => (ih.bin _ _ (by omega)).bind fun y l1 h1 => ?_) (fun _ => Nat.lt_succ_self _)
    exact lt_mono (ih.loop k (.mk 6 0 t.text [x, y]) l1 (by omega)) (by omega)
theorem fuel_un (ih : Fuel n) (l : List Tok) (h : 16 * l.length ≤ n) : (unF (gram n) l).Lt l.length := by
  unfold unF
  refine .ite (fun hi => ?_) (fun _ => .ite (fun hi => ?_) (fun _ => .ite (fun hi => ?_) (fun _ => .ite (fun hi => ?_) (fun _ => ?_))))
  · have := is_pos hi
    exact (ih.un _ (by omega)).bind fun _ l1 h1 => ok_lt _ (by omega)
  · have := is_pos hi
    exact (ih.un _ (by omega)).bind fun _ l1 h1 => ok_lt _ (by omega)
  · exact (number_lt _).bind fun _ l1 h1 => ok_lt _ h1
  · have := is_pos hi
    exact (ih.expr _ (by omega)).bind fun _ l1 h1 => (must_lt _ _).bind fun _ l2 h2 => ok_lt _ (by omega)
  · refine (name_lt _).bind fun s l1 h1 => .ite (fun hi => ?_) (fun _ => .ite (fun hi => ?_) (fun _ => ok_lt _ h1))
    · have := is_pos hi
      exact (ih.expr _ (by omega)).bind fun _ l2 h2 => (must_lt _ _).bind fun _ l3 h3 => ok_lt _ (by omega)
    · have := is_pos hi
      exact (ih.args _ _ (by omega)).bind fun _ l2 h2 => ok_lt _ (by omega)
theorem fuel_args (ih : Fuel n) (xs : List Ex) (l : List Tok) (h : 16 * l.length + 13 ≤ n) : (argsF (gram n) xs l).Lt l.length := by
  unfold argsF
  refine .ite (fun hi => is_pos hi) (fun _ => ?_)
  refine R.Lt.bind (j := l.length + 1) ?_ fun _ l1 h1 => R.Lt.bind (j := l.length + 1) ?_ fun _ l2 h2 => (ih.expr _ (by omega)).bind fun x l3 h3 => lt_mono (ih.args (xs ++ [x]) l3 (by omega)) (by omega)
  · exact .ite (fun _ => ok_lt _ (Nat.lt_succ_self _)) (fun _ => lt_mono (must_lt _ _) (by omega))
  · exact .ite (fun _ => lt_mono (few_lt _ _ _) (by omega)) (fun _ => ok_lt _ h1)
theorem setF_lt (ih : Fuel n) (k : Int) (s : Str) (l : List Tok) (h : 16 * l.length ≤ n + 3) : (setF (gram n) k s l).Lt l.length := by
  unfold setF
  exact (must_lt _ _).bind fun _ l1 h1 => (ih.expr _ (by omega)).bind fun _ l2 h2 => (must_lt _ _).bind fun _ l3 h3 => ok_lt _ (by omega)
theorem namedF_lt (ih : Fuel n) (l : List Tok) (h : 16 * l.length ≤ n) : (namedF (gram n) l).Lt l.length := by
  unfold namedF
  refine (name_lt _).bind fun s l1 h1 => .ite (fun hi => ?_) (fun _ => .ite (fun hi => ?_) (fun _ => lt_mono (setF_lt ih _ _ _ (by omega)) (by omega)))
  · have := is_pos hi
    exact (ih.expr _ (by omega)).bind fun _ l2 h2 => (must_lt _ _).bind fun _ l3 h3 => (must_lt _ _).bind fun _ l4 h4 => (ih.expr _ (by omega)).bind fun _ l5 h5 => (must_lt _ _).bind fun _ l6 h6 => ok_lt _ (by omega)
  · have := is_pos hi
    exact (ih.args _ _ (by omega)).bind fun _ l2 h2 => (must_lt _ _).bind fun _ l3 h3 => ok_lt _ (by omega)
theorem plainF_lt (ih : Fuel n) (k : Int) (l : List Tok) (h : 16 * l.length + 13 ≤ n) : (plainF (gram n) k l).Lt l.length := by
  unfold plainF
  exact (ih.expr _ (by omega)).bind fun _ l1 h1 => (must_lt _ _).bind fun _ l2 h2 => ok_lt _ (by omega)
theorem fuel_branch (ih : Fuel n) (l : List Tok) (h : 16 * l.length ≤ n) : (branchF (gram n) l).Lt l.length := by
  unfold branchF
  refine (must_lt _ _).bind fun _ l1 h1 => (ih.expr _ (by omega)).bind fun _ l2 h2 => (blockF_lt ih _ (by omega)).bind fun _ l3 h3 => .ite (fun hi => .ite (fun hj => ?_) (fun _ => ?_)) (fun _ => ok_lt _ (by omega))
  · have := is_pos hi
    exact (ih.branch _ (by omega)).bind fun _ l4 h4 => ok_lt _ (by omega)
  · have := is_pos hi
    exact (blockF_lt ih _ (by omega)).bind fun _ l4 h4 => ok_lt _ (by omega)
theorem fuel_stmt (ih : Fuel n) (l : List Tok) (h : 16 * l.length + 1 ≤ n) : (stmtF (gram n) l).Lt l.length := by
  unfold stmtF
  refine .ite (fun _ => namedF_lt ih _ (by omega)) (fun _ => .ite (fun hi => ?_) (fun _ => .ite (fun hi => ?_) (fun _ => .ite (fun hi => ?_) (fun _ => .ite (fun hi => ?_) (fun _ => .ite (fun _ => ih.branch _ (by omega)) (fun _ => .ite (fun hi => ?_) (fun _ => .ite (fun hi => ?_) (fun _ => .ite (fun hi => ?_) (fun _ => trivial)))))))))
  · have := is_pos hi
    exact lt_mono (plainF_lt ih _ _ (by omega)) (by omega)
  · have := is_pos hi
    exact lt_mono (plainF_lt ih _ _ (by omega)) (by omega)
  · have := is_pos hi
    exact lt_mono (plainF_lt ih _ _ (by omega)) (by omega)
  · have := is_pos hi
    exact (name_lt _).bind fun _ l1 h1 => lt_mono (setF_lt ih _ _ _ (by omega)) (by omega)
  · have := is_pos hi
    exact (ih.expr _ (by omega)).bind fun _ l1 h1 => (blockF_lt ih _ (by omega)).bind fun _ l2 h2 => ok_lt _ (by omega)
  · have := is_pos hi
    exact (name_lt _).bind fun _ l1 h1 => (must_lt _ _).bind fun _ l2 h2 => (ih.expr _ (by omega)).bind fun _ l3 h3 => (must_lt _ _).bind fun _ l4 h4 => (ih.expr _ (by omega)).bind fun _ l5 h5 => (blockF_lt ih _ (by omega)).bind fun _ l6 h6 => ok_lt _ (by omega)
  · have := is_pos hi
    exact (blockF_lt ih _ (by omega)).bind fun _ l1 h1 => (must_lt _ _).bind fun _ l2 h2 => (name_lt _).bind fun _ l3 h3 => (blockF_lt ih _ (by omega)).bind fun _ l4 h4 => ok_lt _ (by omega)
theorem fuel_stmts (ih : Fuel n) (xs : List St) (l : List Tok) (h : 16 * l.length + 2 ≤ n) : (stmtsF (gram n) xs l).Lt l.length := by
  unfold stmtsF
  exact .ite (fun hi => is_pos hi) (fun _ => (ih.stmt _ (by omega)).bind fun x l1 h1 => lt_mono (ih.stmts _ _ (by omega)) (by omega))
end
theorem fuel : ∀ n, Fuel n
  | 0 => ⟨fun l h => absurd h (by omega), fun k l h => absurd h (by omega), fun k x l h => absurd h (by omega), fun l h => absurd h (by omega), fun xs l h => absurd h (by omega), fun l h => absurd h (by omega), fun xs l h => absurd h (by omega), fun l h => absurd h (by omega)⟩
  | n + 1 => by
    have ih := fuel n
    exact ⟨fun l h => fuel_expr ih l (by omega), fun k l h => fuel_bin ih k l (by omega), fun k x l h => fuel_loop ih k x l (by omega), fun l h => fuel_un ih l (by omega), fun xs l h => fuel_args ih xs l (by omega),
      fun l h => fuel_stmt ih l (by omega), fun xs l h => fuel_stmts ih xs l (by omega), fun l h => fuel_branch ih l (by omega)⟩
theorem paramsF_lt : ∀ n xs l, l.length < n → (paramsF n xs l).Lt l.length
  | 0, _, _, h => absurd h (by omega)
  | n + 1, xs, l, h => by
    unfold paramsF
    refine .ite (fun hi => is_pos hi) (fun _ => ?_)
    refine R.Lt.bind (j := l.length + 1) ?_ fun _ l1 h1 => R.Lt.bind (j := l.length + 1) ?_ fun _ l2 h2 => (name_lt _).bind fun x l3 h3 => lt_mono (paramsF_lt n _ l3 (by omega)) (by omega)
    · exact .ite (fun _ => ok_lt _ (Nat.lt_succ_self _)) (fun _ => lt_mono (must_lt _ _) (by omega))
    · exact .ite (fun _ => lt_mono (few_lt _ _ _) (by omega)) (fun _ => ok_lt _ h1)
theorem func_lt (n : Nat) (l : List Tok) (h : 16 * l.length + 16 ≤ n) : (func n l).Lt l.length := by
  unfold func
  exact (must_lt _ _).bind fun _ l1 h1 => (name_lt _).bind fun _ l2 h2 => (must_lt _ _).bind fun _ l3 h3 => (paramsF_lt n _ _ (by omega)).bind fun _ l4 h4 => (blockF_lt (fuel n) _ (by omega)).bind fun _ l5 h5 => ok_lt _ (by omega)
theorem array_lt (l : List Tok) : (array l).Lt l.length := by
  unfold array
  exact (must_lt _ _).bind fun _ l1 h1 => (name_lt _).bind fun _ l2 h2 => (must_lt _ _).bind fun _ l3 h3 => (number_lt _).bind fun _ l4 h4 => (must_lt _ _).bind fun _ l5 h5 => (must_lt _ _).bind fun _ l6 h6 => ok_lt _ (by omega)
theorem prog_lt (n : Nat) : ∀ m as fs l, 16 * l.length + 16 ≤ n → l.length < m → (prog n m as fs l).Lt (l.length + 1)
  | 0, _, _, _, _, h => absurd h (by omega)
  | m + 1, as, fs, l, hn, h => by
    unfold prog
    refine .ite (fun _ => ok_lt _ (by simp)) (fun _ => .ite (fun hi => ?_) (fun _ => .ite (fun hi => ?_) (fun _ => trivial)))
    · exact (few_lt _ _ _).bind fun _ l1 h1 => (array_lt _).bind fun _ l2 h2 => lt_mono (prog_lt n m _ _ _ (by omega) (by omega)) (by omega)
    · exact (few_lt _ _ _).bind fun _ l1 h1 => (func_lt _ _ (by omega)).bind fun _ l2 h2 => lt_mono (prog_lt n m _ _ _ (by omega) (by omega)) (by omega)
/-- The fuel that is enough for all strings that are not too long. -/
def fuel0 : Nat := 1000000
theorem expr_out {l : List Tok} (h : l.length ≤ 20001) : (gram fuel0).expr l ≠ .out := ((fuel fuel0).expr l (by unfold fuel0; omega)).ne
theorem prog_out {l : List Tok} (h : l.length ≤ 20001) : prog fuel0 fuel0 [] [] l ≠ .out := (prog_lt fuel0 fuel0 [] [] l (by unfold fuel0; omega) (by unfold fuel0; omega)).ne
end Bir
set_option linter.unusedVariables false
set_option linter.unusedSimpArgs false
namespace Bir
mutual
def deepE : Ex → Nat
  | .mk _ _ _ l => deepEs l + 1
def deepEs : List Ex → Nat
  | [] => 0
  | x :: r => max (deepE x) (deepEs r)
end
mutual
def sizeE : Ex → Nat
  | .mk _ _ _ l => sizeEs l + 1
def sizeEs : List Ex → Nat
  | [] => 0
  | x :: r => sizeE x + sizeEs r
end
mutual
/-- A statement's depth: one more than the greatest of its parts. -/
def deepS : St → Nat
  | .mk _ _ xs b e => max (deepEs xs) (max (deepB b) (deepB e)) + 1
def deepB : List St → Nat
  | [] => 0
  | s :: r => max (deepS s) (deepB r)
end
mutual
def sizeS : St → Nat
  | .mk _ _ xs b e => sizeEs xs + (sizeB b + sizeB e) + 1
def sizeB : List St → Nat
  | [] => 0
  | s :: r => sizeS s + sizeB r
end
def deepP : List Fn → Nat
  | [] => 0
  | f :: r => max (deepB f.body) (deepP r)
def sizeP : List Fn → Nat
  | [] => 0
  | f :: r => sizeB f.body + sizeP r
theorem deepE_eq (x : Ex) : deepE x = deepEs x.kids + 1 := by cases x; rw [deepE]; rfl
theorem sizeE_eq (x : Ex) : sizeE x = sizeEs x.kids + 1 := by cases x; rw [sizeE]; rfl
theorem deepS_eq (s : St) : deepS s = max (deepEs s.exprs) (max (deepB s.body) (deepB s.els)) + 1 := by cases s; rw [deepS]; rfl
theorem sizeS_eq (s : St) : sizeS s = sizeEs s.exprs + (sizeB s.body + sizeB s.els) + 1 := by cases s; rw [sizeS]; rfl
theorem deepEs_snoc (l : List Ex) (x : Ex) : deepEs (l ++ [x]) = max (deepEs l) (deepE x) := by
  induction l with
  | nil => simp [deepEs]
  | cons y l ih => simp only [List.cons_append, deepEs, ih]; omega
theorem sizeEs_app (l m : List Ex) : sizeEs (l ++ m) = sizeEs l + sizeEs m := by
  induction l with
  | nil => simp [sizeEs]
  | cons y l ih => simp only [List.cons_append, sizeEs, ih]; omega
theorem deepB_snoc (l : List St) (x : St) : deepB (l ++ [x]) = max (deepB l) (deepS x) := by
  induction l with
  | nil => simp [deepB]
  | cons y l ih => simp only [List.cons_append, deepB, ih]; omega
theorem sizeB_app (l m : List St) : sizeB (l ++ m) = sizeB l + sizeB m := by
  induction l with
  | nil => simp [sizeB]
  | cons y l ih => simp only [List.cons_append, sizeB, ih]; omega
theorem deepP_snoc (l : List Fn) (x : Fn) : deepP (l ++ [x]) = max (deepP l) (deepB x.body) := by
  induction l with
  | nil => simp [deepP]
  | cons y l ih => simp only [List.cons_append, deepP, ih]; omega
theorem deepP_app (l m : List Fn) : deepP (l ++ m) = max (deepP l) (deepP m) := by
  induction l with
  | nil => simp [deepP]
  | cons y l ih => simp only [List.cons_append, deepP, ih]; omega
theorem sizeP_app (l m : List Fn) : sizeP (l ++ m) = sizeP l + sizeP m := by
  induction l with
  | nil => simp [sizeP]
  | cons y l ih => simp only [List.cons_append, sizeP, ih]; omega
theorem len_sizeEs : ∀ l : List Ex, l.length ≤ sizeEs l
  | [] => by simp
  | x :: r => by
    have := len_sizeEs r
    have := sizeE_eq x
    simp only [List.length_cons, sizeEs]
    omega
theorem len_sizeB : ∀ l : List St, l.length ≤ sizeB l
  | [] => by simp
  | x :: r => by
    have := len_sizeB r
    have := sizeS_eq x
    simp only [List.length_cons, sizeB]
    omega
theorem mem_sizeEs {x : Ex} : ∀ {l : List Ex}, x ∈ l → sizeE x ≤ sizeEs l
  | y :: r, h => by
    simp only [sizeEs]
    rcases List.mem_cons.1 h with rfl | h
    · omega
    · have := mem_sizeEs h; omega
theorem mem_sizeB {x : St} : ∀ {l : List St}, x ∈ l → sizeS x ≤ sizeB l
  | y :: r, h => by
    simp only [sizeB]
    rcases List.mem_cons.1 h with rfl | h
    · omega
    · have := mem_sizeB h; omega
theorem mem_sizeP {x : Fn} : ∀ {l : List Fn}, x ∈ l → sizeB x.body ≤ sizeP l
  | y :: r, h => by
    simp only [sizeP]
    rcases List.mem_cons.1 h with rfl | h
    · omega
    · have := mem_sizeP h; omega
theorem mem_deepEs {x : Ex} : ∀ {l : List Ex}, x ∈ l → deepE x ≤ deepEs l
  | y :: r, h => by
    simp only [deepEs]
    rcases List.mem_cons.1 h with rfl | h
    · omega
    · have := mem_deepEs h; omega
theorem deepE_size (x : Ex) : deepE x ≤ sizeE x := by
  induction x using Ex.ind with
  | h k n s l ih =>
    have : ∀ m : List Ex, (∀ x ∈ m, deepE x ≤ sizeE x) → deepEs m ≤ sizeEs m := by
      intro m hm
      induction m with
      | nil => simp [deepEs, sizeEs]
      | cons y r ihr =>
        have h1 := hm y (by simp)
        have h2 := ihr (fun x hx => hm x (by simp [hx]))
        simp only [deepEs, sizeEs]
        omega
    have := this l ih
    rw [deepE, sizeE]
    omega
theorem deepEs_size (l : List Ex) : deepEs l ≤ sizeEs l := by
  induction l with
  | nil => simp [deepEs, sizeEs]
  | cons y r ih =>
    have := deepE_size y
    simp only [deepEs, sizeEs]
    omega
theorem deepS_size (x : St) : deepS x ≤ sizeS x := by
  induction x using St.ind with
  | h k s l b e ihb ihe =>
    have : ∀ m : List St, (∀ x ∈ m, deepS x ≤ sizeS x) → deepB m ≤ sizeB m := by
      intro m hm
      induction m with
      | nil => simp [deepB, sizeB]
      | cons y r ihr =>
        have h1 := hm y (by simp)
        have h2 := ihr (fun x hx => hm x (by simp [hx]))
        simp only [deepB, sizeB]
        omega
    have h1 := this b ihb
    have h2 := this e ihe
    have h3 := deepEs_size l
    rw [deepS, sizeS]
    omega
theorem deepB_size (l : List St) : deepB l ≤ sizeB l := by
  induction l with
  | nil => simp [deepB, sizeB]
  | cons y r ih =>
    have := deepS_size y
    simp only [deepB, sizeB]
    omega

/-! ### no larger than its tokens -/
def R.Sz {α : Type} (f : α → Nat) (k : Nat) : R α → Prop
  | .ok x l => f x + l.length ≤ k
  | _ => True
theorem R.Sz.bind {α β : Type} {a : R α} {f : α → Nat} {g : β → Nat} {h : α → List Tok → R β} {j k : Nat} (ha : a.Sz f j) (hf : ∀ x l, f x + l.length ≤ j → (h x l).Sz g k) : (a.bind h).Sz g k := by
  cases a with
  | out => trivial
  | err l e => trivial
  | ok x l => exact hf x l ha
theorem R.Sz.ite {α : Type} {p : Prop} [Decidable p] {a b : R α} {f : α → Nat} {k : Nat} (h1 : p → a.Sz f k) (h2 : ¬ p → b.Sz f k) : (if p then a else b).Sz f k := by
  by_cases h : p
  · rw [if_pos h]; exact h1 h
  · rw [if_neg h]; exact h2 h
theorem R.Sz.mono {α : Type} {a : R α} {f : α → Nat} {j k : Nat} (h : a.Sz f j) (hk : j ≤ k) : a.Sz f k := by
  cases a with
  | out => trivial
  | err l e => trivial
  | ok x l => exact Nat.le_trans h hk
theorem ok_sz {α : Type} {f : α → Nat} (x : α) {l : List Tok} {k : Nat} (h : f x + l.length ≤ k) : (R.ok x l).Sz f k := h
def zero {α : Type} (_ : α) : Nat := 0
def one {α : Type} (_ : α) : Nat := 1
theorem must_sz (s : Str) (l : List Tok) : (must s l).Sz one l.length := .ite (fun h => by have := is_pos h; show 1 + _ ≤ _; omega) (fun _ => trivial)
theorem name_sz (l : List Tok) : (name l).Sz one l.length := by
  cases l with
  | nil => trivial
  | cons t l => exact .ite (fun _ => .ite (fun _ => trivial) (fun _ => by show 1 + _ ≤ _; simp; omega)) (fun _ => trivial)
theorem number_sz (l : List Tok) : (number l).Sz one l.length := by
  cases l with
  | nil => trivial
  | cons t l =>
    refine .ite (fun _ => ?_) (fun _ => trivial)
    cases value t.text with
    | none => trivial
    | some n => show 1 + _ ≤ _; simp; omega
theorem few_sz (n m : Nat) (l : List Tok) : (few n m l).Sz zero l.length := .ite (fun _ => trivial) (fun _ => by show 0 + _ ≤ _; omega)
structure RecSz (r : Rec) : Prop where
  expr : ∀ l, (r.expr l).Sz sizeE l.length
  bin : ∀ k l, (r.bin k l).Sz sizeE l.length
  loop : ∀ k x l, (r.loop k x l).Sz sizeE (sizeE x + l.length)
  un : ∀ l, (r.un l).Sz sizeE l.length
  args : ∀ xs l, (r.args xs l).Sz sizeEs (sizeEs xs + l.length)
  stmt : ∀ l, (r.stmt l).Sz sizeS l.length
  stmts : ∀ xs l, (r.stmts xs l).Sz sizeB (sizeB xs + l.length)
  branch : ∀ l, (r.branch l).Sz sizeS l.length
section
variable {r : Rec}
theorem blockF_sz (h : RecSz r) (l : List Tok) : (blockF r l).Sz sizeB l.length := by
  unfold blockF
  exact (must_sz _ _).bind fun _ l1 h1 => (h.stmts [] l1).mono (by simp only [sizeB, one] at *; omega)
theorem setF_sz (h : RecSz r) (k : Int) (s : Str) (l : List Tok) : (setF r k s l).Sz sizeS l.length := by
  unfold setF
  exact (must_sz _ _).bind fun _ l1 h1 => (h.expr _).bind fun x l2 h2 => (must_sz _ _).bind fun _ l3 h3 => ok_sz _ (by simp only [sizeS, sizeB, sizeEs, one] at *; omega)
theorem namedF_sz (h : RecSz r) (l : List Tok) : (namedF r l).Sz sizeS l.length := by
  unfold namedF
  refine (name_sz _).bind fun s l1 h1 => .ite (fun hi => ?_) (fun _ => .ite (fun hi => ?_) (fun _ => (setF_sz h _ _ _).mono (by simp only [one] at *; omega)))
  · have := is_pos hi
    exact (h.expr _).bind fun _ l2 h2 => (must_sz _ _).bind fun _ l3 h3 => (must_sz _ _).bind fun _ l4 h4 => (h.expr _).bind fun _ l5 h5 => (must_sz _ _).bind fun _ l6 h6 => ok_sz _ (by simp only [sizeS, sizeB, sizeEs, one] at *; omega)
  · have := is_pos hi
    exact (h.args _ _).bind fun _ l2 h2 => (must_sz _ _).bind fun _ l3 h3 => ok_sz _ (by simp only [sizeS, sizeB, sizeEs, one] at *; omega)
theorem plainF_sz (h : RecSz r) (k : Int) (l : List Tok) : (plainF r k l).Sz sizeS l.length := by
  unfold plainF
  exact (h.expr _).bind fun _ l1 h1 => (must_sz _ _).bind fun _ l2 h2 => ok_sz _ (by simp only [sizeS, sizeB, sizeEs, one] at *; omega)
theorem step_sz (h : RecSz r) : RecSz (step r) where
  expr l := by
    show (exprF r l).Sz sizeE l.length
    unfold exprF
    refine (h.bin _ _).bind fun x l1 h1 => .ite (fun hi => ?_) (fun _ => h1)
    have := is_pos hi
    exact (h.expr _).bind fun _ l2 h2 => (must_sz _ _).bind fun _ l3 h3 => (h.expr _).bind fun _ l4 h4 => ok_sz _ (by simp only [sizeE, sizeEs, one] at *; omega)
  bin k l := by
    show (binF r k l).Sz sizeE l.length
    unfold binF
    exact .ite (fun _ => h.un _) (fun _ => (h.bin _ _).bind fun x l1 h1 => (h.loop k x l1).mono h1)
  loop k x l := by
    show (loopF r k x l).Sz sizeE (sizeE x + l.length)
    cases l with
    | nil => exact Nat.le_refl _
    | cons t l =>
      simp only [List.length_cons]
      exact .ite (fun _ => (h.bin _ _).bind fun y l1 h1 => (h.loop k _ l1).mono (by simp only [sizeE, sizeEs, one] at *; omega)) (fun _ => Nat.le_refl _)
  un l := by
    show (unF r l).Sz sizeE l.length
    unfold unF
    refine .ite (fun hi => ?_) (fun _ => .ite (fun hi => ?_) (fun _ => .ite (fun hi => ?_) (fun _ => .ite (fun hi => ?_) (fun _ => ?_))))
    · have := is_pos hi
      exact (h.un _).bind fun _ l1 h1 => ok_sz _ (by simp only [sizeE, sizeEs, one] at *; omega)
    · have := is_pos hi
      exact (h.un _).bind fun _ l1 h1 => ok_sz _ (by simp only [sizeE, sizeEs, one] at *; omega)
    · exact (number_sz _).bind fun _ l1 h1 => ok_sz _ (by simp only [sizeE, sizeEs, one] at *; omega)
    · have := is_pos hi
      exact (h.expr _).bind fun _ l1 h1 => (must_sz _ _).bind fun _ l2 h2 => ok_sz _ (by simp only [one] at *; omega)
    · refine (name_sz _).bind fun s l1 h1 => .ite (fun hi => ?_) (fun _ => .ite (fun hi => ?_) (fun _ => ok_sz _ (by simp only [sizeE, sizeEs, one] at *; omega)))
      · have := is_pos hi
        exact (h.expr _).bind fun _ l2 h2 => (must_sz _ _).bind fun _ l3 h3 => ok_sz _ (by simp only [sizeE, sizeEs, one] at *; omega)
      · have := is_pos hi
        exact (h.args _ _).bind fun _ l2 h2 => ok_sz _ (by simp only [sizeE, sizeEs, one] at *; omega)
  args xs l := by
    show (argsF r xs l).Sz sizeEs (sizeEs xs + l.length)
    unfold argsF
    refine .ite (fun hi => ok_sz _ (by have := is_pos hi; omega)) (fun _ => ?_)
    refine R.Sz.bind (f := zero) (j := l.length) ?_ fun _ l1 h1 => R.Sz.bind (f := zero) (j := l.length) ?_ fun _ l2 h2 => (h.expr _).bind fun x l3 h3 => (h.args (xs ++ [x]) l3).mono (by simp only [sizeEs_app, sizeEs, zero] at *; omega)
    · refine .ite (fun _ => ok_sz _ (by show 0 + _ ≤ _; omega)) (fun _ => ?_)
      have := must_sz [44] l
      revert this
      cases must [44] l with
      | out => exact fun _ => trivial
      | err l e => exact fun _ => trivial
      | ok x l => intro h; simp only [R.Sz, one, zero] at *; omega
    · refine .ite (fun _ => (few_sz _ _ _).mono (by simp only [zero] at *; omega)) (fun _ => ok_sz _ h1)
  stmt l := by
    show (stmtF r l).Sz sizeS l.length
    unfold stmtF
    refine .ite (fun _ => namedF_sz h _) (fun _ => .ite (fun hi => ?_) (fun _ => .ite (fun hi => ?_) (fun _ => .ite (fun hi => ?_) (fun _ => .ite (fun hi => ?_) (fun _ => .ite (fun _ => h.branch _) (fun _ => .ite (fun hi => ?_) (fun _ => .ite (fun hi => ?_) (fun _ => .ite (fun hi => ?_) (fun _ => trivial)))))))))
    · exact (plainF_sz h _ _).mono (by have := is_pos hi; omega)
    · exact (plainF_sz h _ _).mono (by have := is_pos hi; omega)
    · exact (plainF_sz h _ _).mono (by have := is_pos hi; omega)
    · have := is_pos hi
      exact (name_sz _).bind fun _ l1 h1 => (setF_sz h _ _ _).mono (by simp only [one] at *; omega)
    · have := is_pos hi
      exact (h.expr _).bind fun _ l1 h1 => (blockF_sz h _).bind fun _ l2 h2 => ok_sz _ (by simp only [sizeS, sizeB, sizeEs, one] at *; omega)
    · have := is_pos hi
      exact (name_sz _).bind fun _ l1 h1 => (must_sz _ _).bind fun _ l2 h2 => (h.expr _).bind fun _ l3 h3 => (must_sz _ _).bind fun _ l4 h4 => (h.expr _).bind fun _ l5 h5 => (blockF_sz h _).bind fun _ l6 h6 => ok_sz _ (by simp only [sizeS, sizeB, sizeEs, one] at *; omega)
    · have := is_pos hi
      exact (blockF_sz h _).bind fun _ l1 h1 => (must_sz _ _).bind fun _ l2 h2 => (name_sz _).bind fun _ l3 h3 => (blockF_sz h _).bind fun _ l4 h4 => ok_sz _ (by simp only [sizeS, sizeB, sizeEs, one] at *; omega)
  stmts xs l := by
    show (stmtsF r xs l).Sz sizeB (sizeB xs + l.length)
    unfold stmtsF
    exact .ite (fun hi => ok_sz _ (by have := is_pos hi; omega)) (fun _ => (h.stmt _).bind fun x l1 h1 => (h.stmts _ _).mono (by simp only [sizeB_app, sizeB] at *; omega))
  branch l := by
    show (branchF r l).Sz sizeS l.length
    unfold branchF
    refine (must_sz _ _).bind fun _ l1 h1 => (h.expr _).bind fun _ l2 h2 => (blockF_sz h _).bind fun _ l3 h3 => .ite (fun hi => .ite (fun hj => ?_) (fun _ => ?_)) (fun _ => ok_sz _ (by simp only [sizeS, sizeB, sizeEs, one] at *; omega))
    · have := is_pos hi
      exact (h.branch _).bind fun _ l4 h4 => ok_sz _ (by simp only [sizeS, sizeB, sizeEs, one] at *; omega)
    · have := is_pos hi
      exact (blockF_sz h _).bind fun _ l4 h4 => ok_sz _ (by simp only [sizeS, sizeB, sizeEs, one] at *; omega)
end
theorem gram_sz : ∀ n, RecSz (gram n)
  | 0 => ⟨fun _ => trivial, fun _ _ => trivial, fun _ _ _ => trivial, fun _ => trivial, fun _ _ => trivial, fun _ => trivial, fun _ _ => trivial, fun _ => trivial⟩
  | n + 1 => step_sz (gram_sz n)
def cntP (p : Pr) : Nat := p.arrays.length + p.funcs.length + sizeP p.funcs
theorem paramsF_sz : ∀ n xs l, (paramsF n xs l).Sz zero l.length
  | 0, _, _ => trivial
  | n + 1, xs, l => by
    unfold paramsF
    refine .ite (fun hi => ok_sz _ (by have := is_pos hi; show 0 + _ ≤ _; omega)) (fun _ => ?_)
    refine R.Sz.bind (f := zero) (j := l.length) ?_ fun _ l1 h1 => R.Sz.bind (f := zero) (j := l.length) ?_ fun _ l2 h2 => (name_sz _).bind fun x l3 h3 => (paramsF_sz n _ _).mono (by simp only [zero, one] at *; omega)
    · refine .ite (fun _ => ok_sz _ (by show 0 + _ ≤ _; omega)) (fun _ => ?_)
      have := must_sz [44] l
      revert this
      cases must [44] l with
      | out => exact fun _ => trivial
      | err l e => exact fun _ => trivial
      | ok x l => intro h; simp only [R.Sz, one, zero] at *; omega
    · refine .ite (fun _ => (few_sz _ _ _).mono (by simp only [zero] at *; omega)) (fun _ => ok_sz _ h1)
theorem array_sz (l : List Tok) : (array l).Sz one l.length := by
  unfold array
  exact (must_sz _ _).bind fun _ _ h1 => (name_sz _).bind fun _ _ h2 => (must_sz _ _).bind fun _ _ h3 => (number_sz _).bind fun _ _ h4 => (must_sz _ _).bind fun _ _ h5 => (must_sz _ _).bind fun _ _ h6 => ok_sz _ (by simp only [one] at *; omega)
theorem func_sz (n : Nat) (l : List Tok) : (func n l).Sz (fun f => 1 + sizeB f.body) l.length := by
  unfold func
  exact (must_sz _ _).bind fun _ _ h1 => (name_sz _).bind fun _ _ h2 => (must_sz _ _).bind fun _ _ h3 => (paramsF_sz _ _ _).bind fun _ _ h4 => (blockF_sz (gram_sz n) _).bind fun _ _ h5 => ok_sz _ (by simp only [one, zero] at *; omega)
theorem prog_sz (n : Nat) : ∀ m as fs l, (prog n m as fs l).Sz cntP (as.length + fs.length + sizeP fs + l.length)
  | 0, _, _, _ => trivial
  | m + 1, as, fs, l => by
    unfold prog
    refine .ite (fun _ => ok_sz _ (by simp only [cntP, List.length_nil]; omega)) (fun _ => .ite (fun hi => ?_) (fun _ => .ite (fun hi => ?_) (fun _ => trivial)))
    · exact (few_sz _ _ _).bind fun _ l1 h1 => (array_sz _).bind fun _ l2 h2 => (prog_sz n m _ _ _).mono (by simp only [zero, one, List.length_append, List.length_cons, List.length_nil] at *; omega)
    · exact (few_sz _ _ _).bind fun _ l1 h1 => (func_sz n _).bind fun f l2 h2 => (prog_sz n m _ _ _).mono (by simp only [zero, one, sizeP_app, sizeP, List.length_append, List.length_cons, List.length_nil] at *; omega)
end Bir
set_option linter.unusedVariables false
namespace Bir
def R.K {α : Type} : R α → Prop
  | .err _ k => k = 3 ∨ k = 4
  | _ => True
theorem R.K.bind {α β : Type} {a : R α} {f : α → List Tok → R β} (h : a.K) (hf : ∀ x l, (f x l).K) : (a.bind f).K := by
  cases a with
  | out => trivial
  | err l k => exact h
  | ok x l => exact hf x l
theorem R.K.ite {α : Type} {p : Prop} [Decidable p] {a b : R α} (h1 : a.K) (h2 : b.K) : (if p then a else b).K := by
  by_cases h : p
  · rw [if_pos h]; exact h1
  · rw [if_neg h]; exact h2
theorem R.K.ok {α : Type} (x : α) (l : List Tok) : (R.ok x l).K := trivial
theorem must_k (s : Str) (l : List Tok) : (must s l).K := .ite trivial (.inr rfl)
theorem name_k (l : List Tok) : (name l).K := by
  cases l with
  | nil => exact .inr rfl
  | cons t l => exact .ite (.ite (.inl rfl) trivial) (.inr rfl)
theorem number_k (l : List Tok) : (number l).K := by
  cases l with
  | nil => exact .inr rfl
  | cons t l =>
    refine .ite ?_ (.inr rfl)
    cases value t.text with
    | none => exact .inl rfl
    | some n => trivial
theorem few_k (n m : Nat) (l : List Tok) : (few n m l).K := .ite (.inl rfl) trivial
structure RecK (r : Rec) : Prop where
  expr : ∀ l, (r.expr l).K
  bin : ∀ k l, (r.bin k l).K
  loop : ∀ k x l, (r.loop k x l).K
  un : ∀ l, (r.un l).K
  args : ∀ xs l, (r.args xs l).K
  stmt : ∀ l, (r.stmt l).K
  stmts : ∀ xs l, (r.stmts xs l).K
  branch : ∀ l, (r.branch l).K
section
variable {r : Rec}
theorem blockF_k (h : RecK r) (l : List Tok) : (blockF r l).K := (must_k _ _).bind fun _ _ => h.stmts _ _
theorem setF_k (h : RecK r) (k : Int) (s : Str) (l : List Tok) : (setF r k s l).K := (must_k _ _).bind fun _ _ => (h.expr _).bind fun _ _ => (must_k _ _).bind fun _ _ => trivial
theorem namedF_k (h : RecK r) (l : List Tok) : (namedF r l).K := by
  unfold namedF
  refine (name_k _).bind fun s l1 => .ite ?_ (.ite ?_ (setF_k h _ _ _))
  · exact (h.expr _).bind fun _ _ => (must_k _ _).bind fun _ _ => (must_k _ _).bind fun _ _ => (h.expr _).bind fun _ _ => (must_k _ _).bind fun _ _ => trivial
  · exact (h.args _ _).bind fun _ _ => (must_k _ _).bind fun _ _ => trivial
theorem plainF_k (h : RecK r) (k : Int) (l : List Tok) : (plainF r k l).K := (h.expr _).bind fun _ _ => (must_k _ _).bind fun _ _ => trivial
theorem step_k (h : RecK r) : RecK (step r) where
  expr l := (h.bin _ _).bind fun _ _ => .ite ((h.expr _).bind fun _ _ => (must_k _ _).bind fun _ _ => (h.expr _).bind fun _ _ => trivial) trivial
  bin k l := .ite (h.un _) ((h.bin _ _).bind fun _ _ => h.loop _ _ _)
  loop k x l := by
    cases l with
    | nil => trivial
    | cons t l => exact .ite ((h.bin _ _).bind fun _ _ => h.loop _ _ _) trivial
  un l := by
    show (unF r l).K
    unfold unF
    refine .ite ((h.un _).bind fun _ _ => trivial) (.ite ((h.un _).bind fun _ _ => trivial) (.ite ((number_k _).bind fun _ _ => trivial) (.ite ?_ ?_)))
    · exact (h.expr _).bind fun _ _ => (must_k _ _).bind fun _ _ => trivial
    · exact (name_k _).bind fun _ _ => .ite ((h.expr _).bind fun _ _ => (must_k _ _).bind fun _ _ => trivial) (.ite ((h.args _ _).bind fun _ _ => trivial) trivial)
  args xs l := by
    show (argsF r xs l).K
    unfold argsF
    exact .ite trivial (R.K.bind (.ite trivial (must_k _ _)) fun _ _ => R.K.bind (.ite (few_k _ _ _) trivial) fun _ _ => (h.expr _).bind fun _ _ => h.args _ _)
  stmt l := by
    show (stmtF r l).K
    unfold stmtF
    refine .ite (namedF_k h _) (.ite (plainF_k h _ _) (.ite (plainF_k h _ _) (.ite (plainF_k h _ _) (.ite ?_ (.ite (h.branch _) (.ite ?_ (.ite ?_ (.ite ?_ (.inr rfl)))))))))
    · exact (name_k _).bind fun _ _ => setF_k h _ _ _
    · exact (h.expr _).bind fun _ _ => (blockF_k h _).bind fun _ _ => trivial
    · exact (name_k _).bind fun _ _ => (must_k _ _).bind fun _ _ => (h.expr _).bind fun _ _ => (must_k _ _).bind fun _ _ => (h.expr _).bind fun _ _ => (blockF_k h _).bind fun _ _ => trivial
    · exact (blockF_k h _).bind fun _ _ => (must_k _ _).bind fun _ _ => (name_k _).bind fun _ _ => (blockF_k h _).bind fun _ _ => trivial
  stmts xs l := .ite trivial ((h.stmt _).bind fun _ _ => h.stmts _ _)
  branch l := (must_k _ _).bind fun _ _ => (h.expr _).bind fun _ _ => (blockF_k h _).bind fun _ _ => .ite (.ite ((h.branch _).bind fun _ _ => trivial) ((blockF_k h _).bind fun _ _ => trivial)) trivial
end
theorem gram_k : ∀ n, RecK (gram n)
  | 0 => ⟨fun _ => trivial, fun _ _ => trivial, fun _ _ _ => trivial, fun _ => trivial, fun _ _ => trivial, fun _ => trivial, fun _ _ => trivial, fun _ => trivial⟩
  | n + 1 => step_k (gram_k n)
theorem array_k (l : List Tok) : (array l).K := (must_k _ _).bind fun _ _ => (name_k _).bind fun _ _ => (must_k _ _).bind fun _ _ => (number_k _).bind fun _ _ => (must_k _ _).bind fun _ _ => (must_k _ _).bind fun _ _ => trivial
theorem paramsF_k : ∀ n xs l, (paramsF n xs l).K
  | 0, _, _ => trivial
  | n + 1, xs, l => by
    unfold paramsF
    exact .ite trivial (R.K.bind (.ite trivial (must_k _ _)) fun _ _ => R.K.bind (.ite (few_k _ _ _) trivial) fun _ _ => (name_k _).bind fun _ _ => paramsF_k n _ _)
theorem func_k (n : Nat) (l : List Tok) : (func n l).K := (must_k _ _).bind fun _ _ => (name_k _).bind fun _ _ => (must_k _ _).bind fun _ _ => (paramsF_k _ _ _).bind fun _ _ => (blockF_k (gram_k n) _).bind fun _ _ => trivial
theorem prog_k (n : Nat) : ∀ m as fs l, (prog n m as fs l).K
  | 0, _, _, _ => trivial
  | m + 1, as, fs, l => by
    unfold prog
    exact .ite trivial (.ite ((few_k _ _ _).bind fun _ _ => (array_k _).bind fun _ _ => prog_k n m _ _ _) (.ite ((few_k _ _ _).bind fun _ _ => (func_k _ _).bind fun _ _ => prog_k n m _ _ _) (.inr rfl)))
end Bir
set_option linter.unusedVariables false
set_option linter.unusedSimpArgs false
namespace Bir
/-! ### tokens behind -/
def R.Dead {α : Type} (a : R α) : Prop := a = .out ∨ a = .err [] 4
def R.End {α : Type} : R α → Prop
  | .out => True
  | .err l k => l = [] ∧ k = 4
  | .ok _ l => l = []
/-- Behind the tokens stand others (q): what is read is read likewise; weak: unless all of them were read. -/
def R.W {α : Type} (q : List Tok) (a b : R α) : Prop :=
  match a with
  | .out => True
  | .err l k => (l ≠ [] ∧ b = .err (l ++ q) k) ∨ (l = [] ∧ k = 4)
  | .ok x l => l ≠ [] → b = .ok x (l ++ q)
def R.S {α : Type} (q : List Tok) (a b : R α) : Prop :=
  match a with
  | .out => True
  | .err l k => (l ≠ [] ∧ b = .err (l ++ q) k) ∨ (l = [] ∧ k = 4)
  | .ok x l => b = .ok x (l ++ q)
section
variable {α β : Type} {q : List Tok} {a b : R α} {f g : α → List Tok → R β}
theorem R.S.w (h : a.S q b) : a.W q b := by
  cases a with
  | out => trivial
  | err l k => exact h
  | ok x l => exact fun _ => h
theorem R.Dead.s (h : a.Dead) : a.S q b := by
  rcases h with rfl | rfl
  · trivial
  · exact .inr ⟨rfl, rfl⟩
theorem R.End.w (h : a.End) : a.W q b := by
  cases a with
  | out => trivial
  | err l k => exact .inr h
  | ok x l => exact fun hn => absurd h hn
theorem R.Dead.e (h : a.Dead) : a.End := by
  rcases h with rfl | rfl
  · trivial
  · exact ⟨rfl, rfl⟩
theorem R.Dead.bind (h : a.Dead) : (a.bind f).Dead := by
  rcases h with rfl | rfl
  · exact .inl rfl
  · exact .inr rfl
theorem R.End.bind (h : a.End) (hf : ∀ x, (f x []).End) : (a.bind f).End := by
  cases a with
  | out => trivial
  | err l k => exact h
  | ok x l =>
    obtain rfl : l = [] := h
    exact hf x
theorem R.End.dead (h : a.End) (hf : ∀ x, (f x []).Dead) : (a.bind f).Dead := by
  cases a with
  | out => exact .inl rfl
  | err l k =>
    obtain ⟨rfl, rfl⟩ := h
    exact .inr rfl
  | ok x l =>
    obtain rfl : l = [] := h
    exact hf x
theorem R.S.bind (h : a.S q b) (hf : ∀ x l, (f x l).S q (g x (l ++ q))) : (a.bind f).S q (b.bind g) := by
  cases a with
  | out => trivial
  | err l k =>
    rcases h with ⟨h1, rfl⟩ | h
    · exact .inl ⟨h1, rfl⟩
    · exact .inr h
  | ok x l =>
    obtain rfl : b = _ := h
    exact hf x l
theorem R.S.bindW (h : a.S q b) (hf : ∀ x l, (f x l).W q (g x (l ++ q))) : (a.bind f).W q (b.bind g) := by
  cases a with
  | out => trivial
  | err l k =>
    rcases h with ⟨h1, rfl⟩ | h
    · exact .inl ⟨h1, rfl⟩
    · exact .inr h
  | ok x l =>
    obtain rfl : b = _ := h
    exact hf x l
theorem R.W.bind (h : a.W q b) (hf : ∀ x l, l ≠ [] → (f x l).W q (g x (l ++ q))) (he : ∀ x, (f x []).End) : (a.bind f).W q (b.bind g) := by
  cases a with
  | out => trivial
  | err l k =>
    rcases h with ⟨h1, rfl⟩ | h
    · exact .inl ⟨h1, rfl⟩
    · exact .inr h
  | ok x l =>
    by_cases hl : l = []
    · subst hl
      exact (he x).w
    · obtain rfl : b = _ := h hl
      exact hf x l hl
theorem R.W.bindS (h : a.W q b) (hf : ∀ x l, l ≠ [] → (f x l).S q (g x (l ++ q))) (he : ∀ x, (f x []).Dead) : (a.bind f).S q (b.bind g) := by
  cases a with
  | out => trivial
  | err l k =>
    rcases h with ⟨h1, rfl⟩ | h
    · exact .inl ⟨h1, rfl⟩
    · exact .inr h
  | ok x l =>
    by_cases hl : l = []
    · subst hl
      exact (he x).s
    · obtain rfl : b = _ := h hl
      exact hf x l hl
theorem R.S.ite {p p' : Prop} [Decidable p] [Decidable p'] {c d : R α} (hp : p ↔ p') (h1 : a.S q c) (h2 : b.S q d) : (if p then a else b).S q (if p' then c else d) := by
  by_cases h : p
  · rw [if_pos h, if_pos (hp.1 h)]; exact h1
  · rw [if_neg h, if_neg (fun k => h (hp.2 k))]; exact h2
theorem R.W.ite {p p' : Prop} [Decidable p] [Decidable p'] {c d : R α} (hp : p ↔ p') (h1 : a.W q c) (h2 : b.W q d) : (if p then a else b).W q (if p' then c else d) := by
  by_cases h : p
  · rw [if_pos h, if_pos (hp.1 h)]; exact h1
  · rw [if_neg h, if_neg (fun k => h (hp.2 k))]; exact h2
theorem R.S.ok (x : α) (l : List Tok) : (R.ok x l).S q (.ok x (l ++ q)) := rfl
theorem R.S.ok' (x : α) {l l' : List Tok} (h : l' = l ++ q) : (R.ok x l).S q (.ok x l') := by rw [h]; rfl
end
section
variable {q l : List Tok}
theorem is_app (s : Str) (h : l ≠ []) : is s (l ++ q) = is s l := by
  cases l with
  | nil => exact absurd rfl h
  | cons t l => rfl
theorem kind_app (h : l ≠ []) : kindOf (l ++ q) = kindOf l := by
  cases l with
  | nil => exact absurd rfl h
  | cons t l => rfl
theorem begins_app (h : l ≠ []) : begins (l ++ q) = begins l := by simp [begins, kind_app h, is_app _ h]
theorem is_ne {s : Str} (h : is s l = true) : l ≠ [] := by
  rintro rfl
  cases h
theorem tail_app (h : l ≠ []) : (l ++ q).tail = l.tail ++ q := by
  cases l with
  | nil => exact absurd rfl h
  | cons t l => rfl
theorem must_dead (s : Str) : (must s []).Dead := .inr rfl
theorem must_s (s : Str) (l q : List Tok) : (must s l).S q (must s (l ++ q)) := by
  cases l with
  | nil => exact (must_dead s).s
  | cons t l =>
    have hi := is_app (l := t :: l) (q := q) s (by simp)
    unfold must
    rw [hi]
    by_cases h : is s (t :: l) = true
    · rw [if_pos h, if_pos h]; rfl
    · rw [if_neg h, if_neg h]; exact .inl ⟨by simp, rfl⟩
theorem name_s (l q : List Tok) : (name l).S q (name (l ++ q)) := by
  cases l with
  | nil => exact .inr ⟨rfl, rfl⟩
  | cons t l =>
    unfold name
    simp only [List.cons_append]
    refine .ite Iff.rfl (.ite Iff.rfl (.inl ⟨by simp, rfl⟩) rfl) (.inl ⟨by simp, rfl⟩)
theorem number_s (l q : List Tok) : (number l).S q (number (l ++ q)) := by
  cases l with
  | nil => exact .inr ⟨rfl, rfl⟩
  | cons t l =>
    unfold number
    simp only [List.cons_append]
    refine .ite Iff.rfl ?_ (.inl ⟨by simp, rfl⟩)
    cases value t.text with
    | none => exact .inl ⟨by simp, rfl⟩
    | some n => exact rfl
theorem few_s (n m : Nat) (h : l ≠ []) : (few n m l).S q (few n m (l ++ q)) := .ite Iff.rfl (.inl ⟨h, rfl⟩) rfl
end
structure App (r : Rec) (q : List Tok) : Prop where
  expr : ∀ l, (r.expr l).W q (r.expr (l ++ q))
  bin : ∀ k l, (r.bin k l).W q (r.bin k (l ++ q))
  loop : ∀ k x l, (r.loop k x l).W q (r.loop k x (l ++ q))
  un : ∀ l, (r.un l).W q (r.un (l ++ q))
  args : ∀ xs l, (r.args xs l).S q (r.args xs (l ++ q))
  stmt : ∀ l, (r.stmt l).W q (r.stmt (l ++ q))
  stmts : ∀ xs l, (r.stmts xs l).S q (r.stmts xs (l ++ q))
  branch : ∀ l, (r.branch l).W q (r.branch (l ++ q))
/-- At the end of the tokens all of them fall but the loop. -/
structure Nil (r : Rec) : Prop where
  expr : (r.expr []).Dead
  bin : ∀ k, (r.bin k []).Dead
  loop : ∀ k x, (r.loop k x []).End
  un : (r.un []).Dead
  args : ∀ xs, (r.args xs []).Dead
  stmt : (r.stmt []).Dead
  stmts : ∀ xs, (r.stmts xs []).Dead
  branch : (r.branch []).Dead
theorem step_nil {r : Rec} (h : Nil r) : Nil (step r) where
  expr := (h.bin 1).bind
  bin k := by
    show (binF r k []).Dead
    unfold binF
    by_cases hk : 10 < k
    · rw [if_pos hk]; exact h.un
    · rw [if_neg hk]; exact (h.bin _).bind
  loop k x := rfl
  un := .inr rfl
  args xs := by
    show (argsF r xs []).Dead
    cases xs with
    | nil =>
      show ((R.ok () []).bind fun _ l1 => (if begins l1 then few 0 8 l1 else R.ok () l1).bind fun _ l2 => (r.expr l2).bind fun x l3 => r.args ([] ++ [x]) l3).Dead
      exact h.expr.bind
    | cons x xs => exact .inr rfl
  stmt := .inr rfl
  stmts xs := h.stmt.bind
  branch := .inr rfl
theorem gram_nil : ∀ n, Nil (gram n)
  | 0 => ⟨.inl rfl, fun _ => .inl rfl, fun _ _ => trivial, .inl rfl, fun _ => .inl rfl, .inl rfl, fun _ => .inl rfl, .inl rfl⟩
  | n + 1 => step_nil (gram_nil n)
section
variable {r : Rec} {q : List Tok}
theorem blockF_s (h : App r q) (l : List Tok) : (blockF r l).S q (blockF r (l ++ q)) := by
  unfold blockF
  exact (must_s _ _ _).bind fun _ _ => h.stmts _ _
theorem blockF_dead : (blockF r []).Dead := .inr rfl
theorem setF_s (h : App r q) (hn : Nil r) (k : Int) (s : Str) (l : List Tok) : (setF r k s l).S q (setF r k s (l ++ q)) := by
  unfold setF
  exact (must_s _ _ _).bind fun _ _ => (h.expr _).bindS (fun _ _ _ => (must_s _ _ _).bind fun _ _ => (by exact R.S.ok _ _)) (fun _ => .inr rfl)
theorem namedF_s (h : App r q) (hn : Nil r) (l : List Tok) : (namedF r l).S q (namedF r (l ++ q)) := by
  unfold namedF
  refine (name_s _ _).bind fun s l1 => ?_
  by_cases h1 : l1 = []
  · subst h1
    exact R.Dead.s (.inr rfl)
  · rw [is_app _ h1, is_app _ h1, tail_app h1]
    refine .ite Iff.rfl ?_ (.ite Iff.rfl ?_ (setF_s h hn _ _ _))
    · exact (h.expr _).bindS (fun _ _ _ => (must_s _ _ _).bind fun _ _ => (must_s _ _ _).bind fun _ _ => (h.expr _).bindS (fun _ _ _ => (must_s _ _ _).bind fun _ _ => (by exact R.S.ok _ _)) (fun _ => .inr rfl)) (fun _ => .inr rfl)
    · exact (h.args _ _).bind fun _ _ => (must_s _ _ _).bind fun _ _ => (by exact R.S.ok _ _)
theorem plainF_s (h : App r q) (hn : Nil r) (k : Int) (l : List Tok) : (plainF r k l).S q (plainF r k (l ++ q)) := by
  unfold plainF
  exact (h.expr _).bindS (fun _ _ _ => (must_s _ _ _).bind fun _ _ => (by exact R.S.ok _ _)) (fun _ => .inr rfl)
theorem step_app (h : App r q) (hn : Nil r) : App (step r) q where
  expr l := by
    show (exprF r l).W q (exprF r (l ++ q))
    unfold exprF
    refine (h.bin _ _).bind (fun x l1 h1 => ?_) (fun _ => rfl)
    rw [is_app _ h1, tail_app h1]
    exact .ite Iff.rfl ((h.expr _).bind (fun _ _ _ => (must_s _ _ _).bindW fun _ _ => (h.expr _).bind (fun _ _ _ => (by exact (R.S.ok _ _).w)) (fun _ => rfl)) (fun _ => ⟨rfl, rfl⟩)) (by exact (R.S.ok _ _).w)
  bin k l := by
    show (binF r k l).W q (binF r k (l ++ q))
    unfold binF
    exact .ite Iff.rfl (h.un _) ((h.bin _ _).bind (fun _ _ _ => h.loop _ _ _) (fun _ => hn.loop _ _))
  loop k x l := by
    show (loopF r k x l).W q (loopF r k x (l ++ q))
    cases l with
    | nil => exact fun h => absurd rfl h
    | cons t l => exact .ite Iff.rfl ((h.bin _ _).bind (fun _ _ _ => h.loop _ _ _) (fun _ => hn.loop _ _)) (fun _ => rfl)
  un l := by
    show (unF r l).W q (unF r (l ++ q))
    by_cases hl : l = []
    · subst hl
      exact (step_nil hn).un.e.w
    · unfold unF
      rw [is_app _ hl, is_app _ hl, is_app _ hl, kind_app hl, tail_app hl]
      refine .ite Iff.rfl ?_ (.ite Iff.rfl ?_ (.ite Iff.rfl ?_ (.ite Iff.rfl ?_ ?_)))
      · exact (h.un _).bind (fun _ _ _ => (by exact (R.S.ok _ _).w)) (fun _ => rfl)
      · exact (h.un _).bind (fun _ _ _ => (by exact (R.S.ok _ _).w)) (fun _ => rfl)
      · exact (number_s _ _).bindW (fun _ _ => (by exact (R.S.ok _ _).w))
      · exact ((h.expr _).bindS (fun _ _ _ => (must_s _ _ _).bind fun _ _ => (by exact R.S.ok _ _)) (fun _ => .inr rfl)).w
      · refine (name_s _ _).bindW fun s l1 => ?_
        by_cases h1 : l1 = []
        · subst h1
          exact fun h => absurd rfl h
        · rw [is_app _ h1, is_app _ h1, tail_app h1]
          refine .ite Iff.rfl ?_ (.ite Iff.rfl ?_ (by exact (R.S.ok _ _).w))
          · exact ((h.expr _).bindS (fun _ _ _ => (must_s _ _ _).bind fun _ _ => (by exact R.S.ok _ _)) (fun _ => .inr rfl)).w
          · exact ((h.args _ _).bind fun _ _ => (by exact R.S.ok _ _)).w
  args xs l := by
    show (argsF r xs l).S q (argsF r xs (l ++ q))
    by_cases hl : l = []
    · subst hl
      exact ((step_nil hn).args xs).s
    · unfold argsF
      rw [is_app _ hl, tail_app hl]
      refine .ite Iff.rfl rfl (R.S.bind ?_ fun _ l1 => ?_)
      · exact .ite Iff.rfl rfl (must_s _ _ _)
      · by_cases h1 : l1 = []
        · subst h1
          refine R.Dead.s ?_
          show ((R.ok () []).bind fun _ l2 => (r.expr l2).bind fun x l3 => r.args (xs ++ [x]) l3).Dead
          exact hn.expr.bind
        · rw [begins_app h1]
          refine R.S.bind (.ite Iff.rfl (few_s _ _ h1) rfl) fun _ l2 => ?_
          exact (h.expr _).bindS (fun _ _ _ => h.args _ _) (fun _ => hn.args _)
  stmt l := by
    show (stmtF r l).W q (stmtF r (l ++ q))
    by_cases hl : l = []
    · subst hl
      exact (step_nil hn).stmt.e.w
    · unfold stmtF
      simp only [is_app _ hl, kind_app hl, tail_app hl]
      refine .ite Iff.rfl (namedF_s h hn _).w (.ite Iff.rfl (plainF_s h hn _ _).w (.ite Iff.rfl (plainF_s h hn _ _).w (.ite Iff.rfl (plainF_s h hn _ _).w (.ite Iff.rfl ?_ (.ite Iff.rfl (h.branch _) (.ite Iff.rfl ?_ (.ite Iff.rfl ?_ (.ite Iff.rfl ?_ (.inl ⟨hl, rfl⟩)))))))))
      · exact R.S.w ((name_s _ _).bind fun _ _ => by exact setF_s h hn _ _ _)
      · exact ((h.expr _).bindS (fun _ _ _ => (blockF_s h _).bind fun _ _ => (by exact R.S.ok _ _)) (fun _ => .inr rfl)).w
      · exact ((name_s _ _).bind fun _ _ => (must_s _ _ _).bind fun _ _ => (h.expr _).bindS (fun _ _ _ => (must_s _ _ _).bind fun _ _ => (h.expr _).bindS (fun _ _ _ => (blockF_s h _).bind fun _ _ => (by exact R.S.ok _ _)) (fun _ => .inr rfl)) (fun _ => .inr rfl)).w
      · exact ((blockF_s h _).bind fun _ _ => (must_s _ _ _).bind fun _ _ => (name_s _ _).bind fun _ _ => (blockF_s h _).bind fun _ _ => (by exact R.S.ok _ _)).w
  stmts xs l := by
    show (stmtsF r xs l).S q (stmtsF r xs (l ++ q))
    by_cases hl : l = []
    · subst hl
      exact ((step_nil hn).stmts xs).s
    · unfold stmtsF
      rw [is_app _ hl, tail_app hl]
      exact .ite Iff.rfl rfl ((h.stmt _).bindS (fun _ _ _ => h.stmts _ _) (fun _ => hn.stmts _))
  branch l := by
    show (branchF r l).W q (branchF r (l ++ q))
    unfold branchF
    refine ((must_s _ _ _).bindW fun _ _ => R.W.bind (h.expr _) (fun _ _ _ => (blockF_s h _).bindW fun _ l3 => ?_) (fun _ => ⟨rfl, rfl⟩))
    by_cases h1 : l3 = []
    · subst h1
      exact fun h => absurd rfl h
    · rw [is_app _ h1, tail_app h1]
      refine .ite Iff.rfl ?_ (by exact (R.S.ok _ _).w)
      by_cases h2 : l3.tail = []
      · rw [h2]
        exact R.End.w ⟨rfl, rfl⟩
      · rw [is_app _ h2]
        exact .ite Iff.rfl ((h.branch _).bind (fun _ _ _ => (by exact (R.S.ok _ _).w)) (fun _ => rfl)) ((blockF_s h _).bind fun _ _ => (by exact R.S.ok _ _)).w
end
theorem gram_app (q : List Tok) : ∀ n, App (gram n) q
  | 0 => ⟨fun _ => trivial, fun _ _ => trivial, fun _ _ _ => trivial, fun _ => trivial, fun _ _ => trivial, fun _ => trivial, fun _ _ => trivial, fun _ => trivial⟩
  | n + 1 => step_app (gram_app q n) (gram_nil n)
theorem array_s (l q : List Tok) : (array l).S q (array (l ++ q)) := by
  unfold array
  exact (must_s _ _ _).bind fun _ _ => (name_s _ _).bind fun _ _ => (must_s _ _ _).bind fun _ _ => (number_s _ _).bind fun _ _ => (must_s _ _ _).bind fun _ _ => (must_s _ _ _).bind fun _ _ => (by exact R.S.ok _ _)
theorem paramsF_s (q : List Tok) : ∀ n xs l, (paramsF n xs l).S q (paramsF n xs (l ++ q))
  | 0, _, _ => trivial
  | n + 1, xs, l => by
    by_cases hl : l = []
    · subst hl
      refine R.Dead.s ?_
      unfold paramsF
      cases xs with
      | nil => exact .inr rfl
      | cons x xs => exact .inr rfl
    · unfold paramsF
      rw [is_app _ hl, tail_app hl]
      refine .ite Iff.rfl rfl (R.S.bind (.ite Iff.rfl rfl (must_s _ _ _)) fun _ l1 => ?_)
      by_cases h1 : l1 = []
      · subst h1
        exact R.Dead.s (.inr rfl)
      · rw [kind_app h1]
        exact R.S.bind (.ite Iff.rfl (few_s _ _ h1) rfl) fun _ l2 => (name_s _ _).bind fun _ _ => paramsF_s q n _ _
theorem func_s (n : Nat) (l q : List Tok) : (func n l).S q (func n (l ++ q)) := by
  unfold func
  exact (must_s _ _ _).bind fun _ _ => (name_s _ _).bind fun _ _ => (must_s _ _ _).bind fun _ _ => (paramsF_s _ _ _ _).bind fun _ _ => (blockF_s (gram_app q n) _).bind fun _ _ => (by exact R.S.ok _ _)
theorem prog_w (n : Nat) (q : List Tok) : ∀ m as fs l, (prog n m as fs l).W q (prog n m as fs (l ++ q))
  | 0, _, _, _ => trivial
  | m + 1, as, fs, l => by
    by_cases hl : l = []
    · subst hl
      exact fun h => absurd rfl h
    · have h0 : l.length ≠ 0 := fun h => hl (List.eq_nil_of_length_eq_zero h)
      have h1 : (l ++ q).length ≠ 0 := by simp [hl]
      unfold prog
      rw [is_app _ hl, is_app _ hl, if_neg h0, if_neg h1]
      refine .ite Iff.rfl ?_ (.ite Iff.rfl ?_ (.inl ⟨hl, rfl⟩))
      · exact (few_s _ _ hl).bindW fun _ _ => (array_s _ _).bindW fun _ _ => prog_w n q m _ _ _
      · exact (few_s _ _ hl).bindW fun _ _ => (func_s _ _ _).bindW fun _ _ => prog_w n q m _ _ _
theorem prog_nil_end (n : Nat) : ∀ m as fs l x l', prog n m as fs l = .ok x l' → l' = []
  | 0, _, _, _, _, _, h => by cases h
  | m + 1, as, fs, l, x, l', h => by
    unfold prog at h
    split at h
    · cases h; rfl
    · split at h
      · revert h
        cases few as.length 16 l with
        | out => intro h; cases h
        | err _ _ => intro h; cases h
        | ok _ l1 =>
          show (array l1).bind _ = _ → _
          cases array l1 with
          | out => intro h; cases h
          | err _ _ => intro h; cases h
          | ok a l2 => exact prog_nil_end n m _ _ _ _ _
      · split at h
        · revert h
          cases few fs.length 40 l with
          | out => intro h; cases h
          | err _ _ => intro h; cases h
          | ok _ l1 =>
            show (func n l1).bind _ = _ → _
            cases func n l1 with
            | out => intro h; cases h
            | err _ _ => intro h; cases h
            | ok a l2 => exact prog_nil_end n m _ _ _ _ _
        · cases h
/-- Where a program falls at a token, its tokens up to there are a program, or fall at their end. -/
theorem prog_prefix {n m : Nat} {p l : List Tok} {t : Tok} (h : prog n m [] [] (p ++ t :: l) = .err (t :: l) 4) (hn : prog n m [] [] p ≠ .out) : (∃ x, prog n m [] [] p = .ok x []) ∨ prog n m [] [] p = .err [] 4 := by
  have hw := prog_w n (t :: l) m [] [] p
  rw [h] at hw
  cases hp : prog n m [] [] p with
  | out => exact absurd hp hn
  | ok x l' =>
    obtain rfl := prog_nil_end _ _ _ _ _ _ _ hp
    exact .inl ⟨x, rfl⟩
  | err l' k =>
    rw [hp] at hw
    rcases hw with ⟨h1, h2⟩ | ⟨rfl, rfl⟩
    · injection h2 with h2 _
      have := congrArg List.length h2
      simp at this
      exact absurd this h1
    · exact .inr rfl
end Bir
set_option linter.unusedVariables false
set_option linter.unusedSimpArgs false
namespace Bir
def R.map {α : Type} (f : Tok → Tok) : R α → R α
  | .out => .out
  | .err l k => .err (l.map f) k
  | .ok x l => .ok x (l.map f)
/-- A turn of tokens that leaves kind and text. -/
structure Turn (f : Tok → Tok) : Prop where
  kind : ∀ t, (f t).kind = t.kind
  text : ∀ t, (f t).text = t.text
section
variable {α β : Type} {φ : Tok → Tok}
theorem R.bind_map {a b : R α} {f g : α → List Tok → R β} (h : b = a.map φ) (hf : ∀ x l, g x (l.map φ) = (f x l).map φ) : b.bind g = (a.bind f).map φ := by
  subst h
  cases a with
  | out => rfl
  | err l k => rfl
  | ok x l => exact hf x l
theorem R.ite_map {p p' : Prop} [Decidable p] [Decidable p'] {a b c d : R α} (hp : p ↔ p') (h1 : c = a.map φ) (h2 : d = b.map φ) : (if p' then c else d) = (if p then a else b).map φ := by
  by_cases h : p
  · rw [if_pos h, if_pos (hp.1 h)]; exact h1
  · rw [if_neg h, if_neg (fun k => h (hp.2 k))]; exact h2
theorem is_map (T : Turn φ) (s : Str) (l : List Tok) : is s (l.map φ) = is s l := by
  cases l with
  | nil => rfl
  | cons t l => simp [is, T.kind, T.text]
theorem kind_map (T : Turn φ) (l : List Tok) : kindOf (l.map φ) = kindOf l := by
  cases l with
  | nil => rfl
  | cons t l => exact T.kind t
theorem begins_map (T : Turn φ) (l : List Tok) : begins (l.map φ) = begins l := by simp [begins, kind_map T, is_map T]
theorem tail_map (l : List Tok) : (l.map φ).tail = l.tail.map φ := by cases l <;> rfl
theorem is_iff (T : Turn φ) (s : Str) (l : List Tok) : is s l = true ↔ is s (l.map φ) = true := by rw [is_map T]
theorem must_map (T : Turn φ) (s : Str) (l : List Tok) : must s (l.map φ) = (must s l).map φ := by
  unfold must
  exact R.ite_map (is_iff T s l) (by rw [tail_map]; rfl) rfl
theorem name_map (T : Turn φ) (l : List Tok) : name (l.map φ) = (name l).map φ := by
  cases l with
  | nil => rfl
  | cons t l =>
    unfold name
    simp only [List.map_cons, T.kind, T.text]
    exact R.ite_map Iff.rfl (R.ite_map Iff.rfl rfl rfl) rfl
theorem number_map (T : Turn φ) (l : List Tok) : number (l.map φ) = (number l).map φ := by
  cases l with
  | nil => rfl
  | cons t l =>
    unfold number
    simp only [List.map_cons, T.kind, T.text]
    refine R.ite_map Iff.rfl ?_ rfl
    cases value t.text <;> rfl
theorem few_map (n m : Nat) (l : List Tok) : few n m (l.map φ) = (few n m l).map φ := R.ite_map Iff.rfl rfl rfl
structure MapR (φ : Tok → Tok) (r : Rec) : Prop where
  expr : ∀ l, r.expr (l.map φ) = (r.expr l).map φ
  bin : ∀ k l, r.bin k (l.map φ) = (r.bin k l).map φ
  loop : ∀ k x l, r.loop k x (l.map φ) = (r.loop k x l).map φ
  un : ∀ l, r.un (l.map φ) = (r.un l).map φ
  args : ∀ xs l, r.args xs (l.map φ) = (r.args xs l).map φ
  stmt : ∀ l, r.stmt (l.map φ) = (r.stmt l).map φ
  stmts : ∀ xs l, r.stmts xs (l.map φ) = (r.stmts xs l).map φ
  branch : ∀ l, r.branch (l.map φ) = (r.branch l).map φ
variable {r : Rec}
theorem blockF_map (T : Turn φ) (h : MapR φ r) (l : List Tok) : blockF r (l.map φ) = (blockF r l).map φ := by
  unfold blockF
  exact R.bind_map (must_map T _ _) fun _ _ => h.stmts _ _
theorem setF_map (T : Turn φ) (h : MapR φ r) (k : Int) (s : Str) (l : List Tok) : setF r k s (l.map φ) = (setF r k s l).map φ := by
  unfold setF
  exact R.bind_map (must_map T _ _) fun _ _ => R.bind_map (h.expr _) fun _ _ => R.bind_map (must_map T _ _) fun _ _ => rfl
theorem namedF_map (T : Turn φ) (h : MapR φ r) (l : List Tok) : namedF r (l.map φ) = (namedF r l).map φ := by
  unfold namedF
  refine R.bind_map (name_map T _) fun _ l1 => ?_
  rw [tail_map]
  refine R.ite_map (is_iff T _ _) ?_ (R.ite_map (is_iff T _ _) ?_ (setF_map T h _ _ _))
  · exact R.bind_map (h.expr _) fun _ _ => R.bind_map (must_map T _ _) fun _ _ => R.bind_map (must_map T _ _) fun _ _ => R.bind_map (h.expr _) fun _ _ => R.bind_map (must_map T _ _) fun _ _ => rfl
  · exact R.bind_map (h.args _ _) fun _ _ => R.bind_map (must_map T _ _) fun _ _ => rfl
theorem plainF_map (T : Turn φ) (h : MapR φ r) (k : Int) (l : List Tok) : plainF r k (l.map φ) = (plainF r k l).map φ := by
  unfold plainF
  exact R.bind_map (h.expr _) fun _ _ => R.bind_map (must_map T _ _) fun _ _ => rfl
theorem step_map (T : Turn φ) (h : MapR φ r) : MapR φ (step r) where
  expr l := by
    show exprF r _ = (exprF r l).map φ
    unfold exprF
    refine R.bind_map (h.bin _ _) fun _ l1 => ?_
    rw [tail_map]
    exact R.ite_map (is_iff T _ _) (R.bind_map (h.expr _) fun _ _ => R.bind_map (must_map T _ _) fun _ _ => R.bind_map (h.expr _) fun _ _ => rfl) rfl
  bin k l := by
    show binF r k _ = (binF r k l).map φ
    unfold binF
    exact R.ite_map Iff.rfl (h.un _) (R.bind_map (h.bin _ _) fun _ _ => h.loop _ _ _)
  loop k x l := by
    show loopF r k x _ = (loopF r k x l).map φ
    cases l with
    | nil => rfl
    | cons t l =>
      unfold loopF
      simp only [List.map_cons, T.kind, T.text]
      exact R.ite_map Iff.rfl (R.bind_map (h.bin _ _) fun _ _ => h.loop _ _ _) rfl
  un l := by
    show unF r _ = (unF r l).map φ
    unfold unF
    rw [kind_map T, tail_map]
    refine R.ite_map (is_iff T _ _) ?_ (R.ite_map (is_iff T _ _) ?_ (R.ite_map Iff.rfl ?_ (R.ite_map (is_iff T _ _) ?_ ?_)))
    · exact R.bind_map (h.un _) fun _ _ => rfl
    · exact R.bind_map (h.un _) fun _ _ => rfl
    · exact R.bind_map (number_map T _) fun _ _ => rfl
    · exact R.bind_map (h.expr _) fun _ _ => R.bind_map (must_map T _ _) fun _ _ => rfl
    · refine R.bind_map (name_map T _) fun _ l1 => ?_
      rw [tail_map]
      refine R.ite_map (is_iff T _ _) ?_ (R.ite_map (is_iff T _ _) ?_ rfl)
      · exact R.bind_map (h.expr _) fun _ _ => R.bind_map (must_map T _ _) fun _ _ => rfl
      · exact R.bind_map (h.args _ _) fun _ _ => rfl
  args xs l := by
    show argsF r xs _ = (argsF r xs l).map φ
    unfold argsF
    rw [tail_map]
    refine R.ite_map (is_iff T _ _) rfl (R.bind_map (R.ite_map Iff.rfl rfl (must_map T _ _)) fun _ l1 => ?_)
    rw [begins_map T]
    exact R.bind_map (R.ite_map Iff.rfl (few_map _ _ _) rfl) fun _ _ => R.bind_map (h.expr _) fun _ _ => h.args _ _
  stmt l := by
    show stmtF r _ = (stmtF r l).map φ
    unfold stmtF
    rw [kind_map T, tail_map]
    refine R.ite_map Iff.rfl (namedF_map T h _) (R.ite_map (is_iff T _ _) (plainF_map T h _ _) (R.ite_map (is_iff T _ _) (plainF_map T h _ _) (R.ite_map (is_iff T _ _) (plainF_map T h _ _) (R.ite_map (is_iff T _ _) ?_ (R.ite_map (is_iff T _ _) (h.branch _) (R.ite_map (is_iff T _ _) ?_ (R.ite_map (is_iff T _ _) ?_ (R.ite_map (is_iff T _ _) ?_ rfl))))))))
    · exact R.bind_map (name_map T _) fun _ _ => setF_map T h _ _ _
    · exact R.bind_map (h.expr _) fun _ _ => R.bind_map (blockF_map T h _) fun _ _ => rfl
    · exact R.bind_map (name_map T _) fun _ _ => R.bind_map (must_map T _ _) fun _ _ => R.bind_map (h.expr _) fun _ _ => R.bind_map (must_map T _ _) fun _ _ => R.bind_map (h.expr _) fun _ _ => R.bind_map (blockF_map T h _) fun _ _ => rfl
    · exact R.bind_map (blockF_map T h _) fun _ _ => R.bind_map (must_map T _ _) fun _ _ => R.bind_map (name_map T _) fun _ _ => R.bind_map (blockF_map T h _) fun _ _ => rfl
  stmts xs l := by
    show stmtsF r xs _ = (stmtsF r xs l).map φ
    unfold stmtsF
    rw [tail_map]
    exact R.ite_map (is_iff T _ _) rfl (R.bind_map (h.stmt _) fun _ _ => h.stmts _ _)
  branch l := by
    show branchF r _ = (branchF r l).map φ
    unfold branchF
    refine R.bind_map (must_map T _ _) fun _ _ => R.bind_map (h.expr _) fun _ _ => R.bind_map (blockF_map T h _) fun _ l3 => ?_
    rw [tail_map]
    exact R.ite_map (is_iff T _ _) (R.ite_map (is_iff T _ _) (R.bind_map (h.branch _) fun _ _ => rfl) (R.bind_map (blockF_map T h _) fun _ _ => rfl)) rfl
theorem gram_map (T : Turn φ) : ∀ n, MapR φ (gram n)
  | 0 => ⟨fun _ => rfl, fun _ _ => rfl, fun _ _ _ => rfl, fun _ => rfl, fun _ _ => rfl, fun _ => rfl, fun _ _ => rfl, fun _ => rfl⟩
  | n + 1 => step_map T (gram_map T n)
theorem array_map (T : Turn φ) (l : List Tok) : array (l.map φ) = (array l).map φ := by
  unfold array
  exact R.bind_map (must_map T _ _) fun _ _ => R.bind_map (name_map T _) fun _ _ => R.bind_map (must_map T _ _) fun _ _ => R.bind_map (number_map T _) fun _ _ => R.bind_map (must_map T _ _) fun _ _ => R.bind_map (must_map T _ _) fun _ _ => rfl
theorem paramsF_map (T : Turn φ) : ∀ n xs l, paramsF n xs (l.map φ) = (paramsF n xs l).map φ
  | 0, _, _ => rfl
  | n + 1, xs, l => by
    unfold paramsF
    rw [tail_map]
    refine R.ite_map (is_iff T _ _) rfl (R.bind_map (R.ite_map Iff.rfl rfl (must_map T _ _)) fun _ l1 => ?_)
    rw [kind_map T]
    exact R.bind_map (R.ite_map Iff.rfl (few_map _ _ _) rfl) fun _ _ => R.bind_map (name_map T _) fun _ _ => paramsF_map T n _ _
theorem func_map (T : Turn φ) (n : Nat) (l : List Tok) : func n (l.map φ) = (func n l).map φ := by
  unfold func
  exact R.bind_map (must_map T _ _) fun _ _ => R.bind_map (name_map T _) fun _ _ => R.bind_map (must_map T _ _) fun _ _ => R.bind_map (paramsF_map T _ _ _) fun _ _ => R.bind_map (blockF_map T (gram_map T n) _) fun _ _ => rfl
theorem prog_map (T : Turn φ) (n : Nat) : ∀ m as fs l, prog n m as fs (l.map φ) = (prog n m as fs l).map φ
  | 0, _, _, _ => rfl
  | m + 1, as, fs, l => by
    unfold prog
    rw [List.length_map]
    refine R.ite_map Iff.rfl rfl (R.ite_map (is_iff T _ _) ?_ (R.ite_map (is_iff T _ _) ?_ rfl))
    · exact R.bind_map (few_map _ _ _) fun _ _ => R.bind_map (array_map T _) fun _ _ => prog_map T n m _ _ _
    · exact R.bind_map (few_map _ _ _) fun _ _ => R.bind_map (func_map T _ _) fun _ _ => prog_map T n m _ _ _
end
/-- Without its offset. -/
def strip (t : Tok) : Tok := ⟨t.kind, t.text, 0⟩
theorem turn_strip : Turn strip := ⟨fun _ => rfl, fun _ => rfl⟩
theorem R.map_ok {α : Type} {φ : Tok → Tok} {a : R α} {x : α} (h : a.map φ = .ok x []) : a = .ok x [] := by
  cases a with
  | out => cases h
  | err l k => cases h
  | ok y l =>
    injection h with h1 h2
    rw [h1, List.map_eq_nil_iff.1 h2]
/-- Tokens that differ in their offsets alone are one program. -/
theorem prog_alike {n m : Nat} {l l' : List Tok} {x : Pr} (h : l.map strip = l'.map strip) (hp : prog n m [] [] l = .ok x []) : prog n m [] [] l' = .ok x [] := by
  have h1 := prog_map turn_strip n m [] [] l
  have h2 := prog_map turn_strip n m [] [] l'
  rw [h] at h1
  rw [h1, hp] at h2
  exact R.map_ok h2.symm
theorem prog_alike_err {n m k : Nat} {l l' e : List Tok} (h : l.map strip = l'.map strip) (hp : prog n m [] [] l = .err e k) : ∃ e', prog n m [] [] l' = .err e' k ∧ e'.map strip = e.map strip := by
  have h1 := prog_map turn_strip n m [] [] l
  have h2 := prog_map turn_strip n m [] [] l'
  rw [h] at h1
  rw [h1, hp] at h2
  cases hq : prog n m [] [] l' with
  | out => rw [hq] at h2; cases h2
  | err e' k' =>
    rw [hq] at h2
    injection h2 with h2 h3
    exact ⟨e', by rw [h3], h2.symm⟩
  | ok y l => rw [hq] at h2; cases h2
end Bir
set_option linter.unusedVariables false
set_option linter.unusedSimpArgs false
namespace Bir
theorem R.bind_ok {α β : Type} {a : R α} {f : α → List Tok → R β} {y : β} {l : List Tok} (h : a.bind f = .ok y l) : ∃ x l1, a = .ok x l1 ∧ f x l1 = .ok y l := by
  cases a with
  | out => cases h
  | err l k => cases h
  | ok x l1 => exact ⟨x, l1, rfl, h⟩
theorem few_ok' {n m : Nat} {l l1 : List Tok} {u : Unit} (h : few n m l = .ok u l1) : n < m ∧ l1 = l := by
  unfold few at h
  split at h
  · cases h
  · cases h; exact ⟨by omega, rfl⟩
theorem few_yes {n m : Nat} (l : List Tok) (h : n < m) : few n m l = .ok () l := if_neg (by omega)
theorem few_not {n m : Nat} (l : List Tok) (h : m ≤ n) : few n m l = .err l 3 := if_pos h
/-- What a function leaves is less, with any fuel. -/
theorem blockF_less {n : Nat} {l l1 : List Tok} {b : List St} (h : blockF (gram n) l = .ok b l1) : l1.length < l.length := by
  have hle := (blockF_le (gram_le n (n + 16 * l.length) (by omega)) l).eq (by rw [h]; simp)
  have := blockF_lt (fuel (n + 16 * l.length)) l (by omega)
  rw [hle, h] at this
  exact this
theorem paramsF_less {n : Nat} {xs ys : List Str} {l l1 : List Tok} (h : paramsF n xs l = .ok ys l1) : l1.length < l.length := by
  have hle := (paramsF_le n (n + l.length + 1) xs l (by omega)).eq (by rw [h]; simp)
  have := paramsF_lt (n + l.length + 1) xs l (by omega)
  rw [hle, h] at this
  exact this
theorem func_less {n : Nat} {l l1 : List Tok} {f : Fn} (h : func n l = .ok f l1) : l1.length < l.length := by
  have hle := (func_le (n := n) (m := n + 16 * l.length + 16) (by omega) l).eq (by rw [h]; simp)
  have := func_lt (n + 16 * l.length + 16) l (by omega)
  rw [hle, h] at this
  exact this
/-- One round of a program. -/
theorem prog_round {n m : Nat} {as : List Arr} {fs : List Fn} {l : List Tok} {x : Pr} (hl : l ≠ []) (h : prog n (m + 1) as fs l = .ok x []) :
    (is [97, 114, 114, 97, 121] l = true ∧ as.length < 16 ∧ ∃ a l1, array l = .ok a l1 ∧ l1.length < l.length ∧ prog n m (as ++ [a]) fs l1 = .ok x []) ∨
    (is [97, 114, 114, 97, 121] l = false ∧ is [102, 117, 110, 99] l = true ∧ fs.length < 40 ∧ ∃ f l1, func n l = .ok f l1 ∧ l1.length < l.length ∧ prog n m as (fs ++ [f]) l1 = .ok x []) := by
  unfold prog at h
  rw [if_neg (fun h0 => hl (List.eq_nil_of_length_eq_zero h0))] at h
  split at h
  · rename_i hi
    obtain ⟨_, l0, h1, h2⟩ := R.bind_ok h
    obtain ⟨hlt, rfl⟩ := few_ok' h1
    obtain ⟨a, l1, h3, h4⟩ := R.bind_ok h2
    refine .inl ⟨hi, hlt, a, l1, h3, ?_, h4⟩
    have := array_lt l0
    rw [h3] at this
    exact this
  · rename_i hi
    split at h
    · rename_i hj
      obtain ⟨_, l0, h1, h2⟩ := R.bind_ok h
      obtain ⟨hlt, rfl⟩ := few_ok' h1
      obtain ⟨a, l1, h3, h4⟩ := R.bind_ok h2
      refine .inr ⟨by simpa using hi, hj, hlt, a, l1, h3, func_less h3, h4⟩
    · cases h
theorem prog_array {n m : Nat} {as : List Arr} {fs : List Fn} {l l1 : List Tok} {a : Arr} (hi : is [97, 114, 114, 97, 121] l = true) (h : array l = .ok a l1) :
    prog n (m + 1) as fs l = if as.length < 16 then prog n m (as ++ [a]) fs l1 else .err l 3 := by
  conv => lhs; unfold prog
  rw [if_neg (fun h0 => is_ne hi (List.eq_nil_of_length_eq_zero h0)), if_pos hi]
  by_cases hc : as.length < 16
  · rw [few_yes l hc, if_pos hc]
    show (array l).bind _ = _
    rw [h]
    rfl
  · rw [few_not l (by omega), if_neg hc]
    rfl
theorem prog_func {n m : Nat} {as : List Arr} {fs : List Fn} {l l1 : List Tok} {f : Fn} (hi : is [97, 114, 114, 97, 121] l = false) (hj : is [102, 117, 110, 99] l = true) (h : func n l = .ok f l1) :
    prog n (m + 1) as fs l = if fs.length < 40 then prog n m as (fs ++ [f]) l1 else .err l 3 := by
  conv => lhs; unfold prog
  rw [if_neg (fun h0 => is_ne hj (List.eq_nil_of_length_eq_zero h0)), if_neg (by rw [hi]; simp), if_pos hj]
  by_cases hc : fs.length < 40
  · rw [few_yes l hc, if_pos hc]
    show (func n l).bind _ = _
    rw [h]
    rfl
  · rw [few_not l (by omega), if_neg hc]
    rfl
theorem prog_append (n : Nat) : ∀ m as fs l x, prog n m as fs l = .ok x [] → ∀ l2, ∃ m', m ≤ m' + l.length ∧ m' ≤ m ∧ prog n m as fs (l ++ l2) = prog n m' x.arrays x.funcs l2
  | 0, _, _, _, _, h => by cases h
  | m + 1, as, fs, l, x, h => fun l2 => by
    by_cases hl : l = []
    · subst hl
      unfold prog at h
      cases h
      exact ⟨m + 1, by omega, Nat.le_refl _, rfl⟩
    · rcases prog_round hl h with ⟨hi, hc, a, l1, h1, hlt, h2⟩ | ⟨hi, hj, hc, f, l1, h1, hlt, h2⟩
      · obtain ⟨m', hm, hm2, he⟩ := prog_append n m _ _ _ _ h2 l2
        refine ⟨m', by omega, by omega, ?_⟩
        have hs := array_s l l2
        rw [h1] at hs
        rw [prog_array (by rw [is_app _ hl]; exact hi) hs, if_pos hc]
        exact he
      · obtain ⟨m', hm, hm2, he⟩ := prog_append n m _ _ _ _ h2 l2
        refine ⟨m', by omega, by omega, ?_⟩
        have hs := func_s n l l2
        rw [h1] at hs
        rw [prog_func (by rw [is_app _ hl]; exact hi) (by rw [is_app _ hl]; exact hj) hs, if_pos hc]
        exact he
theorem prog_few (n : Nat) : ∀ m A F l x, prog n m A F l = .ok x [] → A.length ≤ 16 → F.length ≤ 40 → x.arrays.length ≤ 16 ∧ x.funcs.length ≤ 40
  | 0, _, _, _, _, h => by cases h
  | m + 1, A, F, l, x, h => fun hA hF => by
    by_cases hl : l = []
    · subst hl
      unfold prog at h
      cases h
      exact ⟨hA, hF⟩
    · rcases prog_round hl h with ⟨hi, hc, a, l1, h1, hlt, h2⟩ | ⟨hi, hj, hc, f, l1, h1, hlt, h2⟩
      · exact prog_few n m _ _ _ _ h2 (by simp; omega) hF
      · exact prog_few n m _ _ _ _ h2 hA (by simp; omega)
theorem prog_shift (n : Nat) : ∀ m A F l x, prog n m A F l = .ok x [] → ∃ a f, x = ⟨A ++ a, F ++ f⟩ ∧ ∀ A' F', A'.length ≤ 16 → F'.length ≤ 40 →
    (A'.length + a.length ≤ 16 ∧ F'.length + f.length ≤ 40 → prog n m A' F' l = .ok ⟨A' ++ a, F' ++ f⟩ []) ∧ (¬ (A'.length + a.length ≤ 16 ∧ F'.length + f.length ≤ 40) → ∃ l', prog n m A' F' l = .err l' 3)
  | 0, _, _, _, _, h => by cases h
  | m + 1, A, F, l, x, h => by
    by_cases hl : l = []
    · subst hl
      unfold prog at h
      cases h
      refine ⟨[], [], by simp, fun A' F' hA hF => ⟨fun _ => ?_, fun hn => absurd (⟨hA, hF⟩ : A'.length ≤ 16 ∧ F'.length ≤ 40) (by simpa using hn)⟩⟩
      unfold prog
      simp
    · rcases prog_round hl h with ⟨hi, hc, a0, l1, h1, hlt, h2⟩ | ⟨hi, hj, hc, f0, l1, h1, hlt, h2⟩
      · obtain ⟨a, f, rfl, hall⟩ := prog_shift n m _ _ _ _ h2
        refine ⟨a0 :: a, f, by simp, fun A' F' hA hF => ?_⟩
        rw [prog_array hi h1]
        by_cases hc' : A'.length < 16
        · rw [if_pos hc']
          have := hall (A' ++ [a0]) F' (by simp; omega) hF
          simp only [List.length_append, List.length_cons, List.length_nil, List.append_assoc, List.singleton_append] at this ⊢
          exact ⟨fun hh => this.1 (by omega), fun hh => this.2 (by omega)⟩
        · rw [if_neg hc']
          exact ⟨fun hh => by simp at hh; omega, fun _ => ⟨l, rfl⟩⟩
      · obtain ⟨a, f, rfl, hall⟩ := prog_shift n m _ _ _ _ h2
        refine ⟨a, f0 :: f, by simp, fun A' F' hA hF => ?_⟩
        rw [prog_func hi hj h1]
        by_cases hc' : F'.length < 40
        · rw [if_pos hc']
          have := hall A' (F' ++ [f0]) hA (by simp; omega)
          simp only [List.length_append, List.length_cons, List.length_nil, List.append_assoc, List.singleton_append] at this ⊢
          exact ⟨fun hh => this.1 (by omega), fun hh => this.2 (by omega)⟩
        · rw [if_neg hc']
          exact ⟨fun hh => by simp at hh; omega, fun _ => ⟨l, rfl⟩⟩
theorem prog_fuel {n m m' : Nat} {A : List Arr} {F : List Fn} {l : List Tok} (hn : 16 * l.length + 16 ≤ n) (h1 : l.length < m) (h2 : l.length < m') : prog n m A F l = prog n m' A F l := by
  rcases Nat.le_total m m' with h | h
  · exact ((prog_le (Nat.le_refl n) m m' A F l h).eq (prog_lt n m A F l hn h1).ne).symm
  · exact (prog_le (Nat.le_refl n) m' m A F l h).eq (prog_lt n m' A F l hn h2).ne
theorem prog_one {l1 l2 : List Tok} {p q : Pr} (h1 : prog fuel0 fuel0 [] [] l1 = .ok p []) (h2 : prog fuel0 fuel0 [] [] l2 = .ok q []) (hl : l1.length + l2.length ≤ 40000) :
    (p.arrays.length + q.arrays.length ≤ 16 ∧ p.funcs.length + q.funcs.length ≤ 40 → prog fuel0 fuel0 [] [] (l1 ++ l2) = .ok ⟨p.arrays ++ q.arrays, p.funcs ++ q.funcs⟩ []) ∧
    (¬ (p.arrays.length + q.arrays.length ≤ 16 ∧ p.funcs.length + q.funcs.length ≤ 40) → ∃ l', prog fuel0 fuel0 [] [] (l1 ++ l2) = .err l' 3) := by
  obtain ⟨m', hm, hm2, he⟩ := prog_append fuel0 fuel0 [] [] l1 p h1 l2
  have hf := prog_few fuel0 fuel0 [] [] l1 p h1 (by simp) (by simp)
  rw [he, prog_fuel (m' := fuel0) (by unfold fuel0; omega) (by unfold fuel0 at hm; omega) (by unfold fuel0; omega)]
  obtain ⟨a, f, hq, hall⟩ := prog_shift fuel0 fuel0 [] [] l2 q h2
  subst hq
  exact hall p.arrays p.funcs hf.1 hf.2
end Bir
set_option linter.unusedVariables false
namespace Bir
mutual
def sameE : Ex → Ex → Bool
  | .mk k n s l, .mk k' n' s' l' => k == k' && (n == n' && (s == s' && sameEs l l'))
def sameEs : List Ex → List Ex → Bool
  | [], [] => true
  | x :: l, y :: r => sameE x y && sameEs l r
  | _, _ => false
end
mutual
def sameS : St → St → Bool
  | .mk k s l b e, .mk k' s' l' b' e' => k == k' && (s == s' && (sameEs l l' && (sameB b b' && sameB e e')))
def sameB : List St → List St → Bool
  | [], [] => true
  | x :: l, y :: r => sameS x y && sameB l r
  | _, _ => false
end
theorem sameE_def (x y : Ex) : sameE x y = (x.kind == y.kind && (x.num == y.num && (x.name == y.name && sameEs x.kids y.kids))) := by
  cases x; cases y; rw [sameE]; rfl
theorem sameS_def (x y : St) : sameS x y = (x.kind == y.kind && (x.name == y.name && (sameEs x.exprs y.exprs && (sameB x.body y.body && sameB x.els y.els)))) := by
  cases x; cases y; rw [sameS]; rfl
theorem sameEs_at : ∀ (a b : List Ex), sameEs a b = true ↔ a.length = b.length ∧ ∀ (j : Nat) x y, a[j]? = some x → b[j]? = some y → sameE x y = true
  | [], [] => by simp [sameEs]
  | [], y :: r => by simp [sameEs]
  | x :: l, [] => by simp [sameEs]
  | x :: l, y :: r => by
    rw [sameEs, Bool.and_eq_true, sameEs_at l r]
    constructor
    · rintro ⟨h1, h2, h3⟩
      refine ⟨by simp [h2], fun j u v hu hv => ?_⟩
      cases j with
      | zero => simp at hu hv; subst hu hv; exact h1
      | succ j => exact h3 j u v (by simpa using hu) (by simpa using hv)
    · rintro ⟨h1, h2⟩
      exact ⟨h2 0 x y rfl rfl, by simpa using h1, fun j u v hu hv => h2 (j + 1) u v (by simpa using hu) (by simpa using hv)⟩
theorem sameB_at : ∀ (a b : List St), sameB a b = true ↔ a.length = b.length ∧ ∀ (j : Nat) x y, a[j]? = some x → b[j]? = some y → sameS x y = true
  | [], [] => by simp [sameB]
  | [], y :: r => by simp [sameB]
  | x :: l, [] => by simp [sameB]
  | x :: l, y :: r => by
    rw [sameB, Bool.and_eq_true, sameB_at l r]
    constructor
    · rintro ⟨h1, h2, h3⟩
      refine ⟨by simp [h2], fun j u v hu hv => ?_⟩
      cases j with
      | zero => simp at hu hv; subst hu hv; exact h1
      | succ j => exact h3 j u v (by simpa using hu) (by simpa using hv)
    · rintro ⟨h1, h2⟩
      exact ⟨h2 0 x y rfl rfl, by simpa using h1, fun j u v hu hv => h2 (j + 1) u v (by simpa using hu) (by simpa using hv)⟩
theorem sameE_eq (x : Ex) : ∀ y, sameE x y = true ↔ x = y := by
  induction x using Ex.ind with
  | h k n s l ih =>
    have hl : ∀ a : List Ex, (∀ x ∈ a, ∀ y, sameE x y = true ↔ x = y) → ∀ b, sameEs a b = true ↔ a = b := by
      intro a
      induction a with
      | nil => intro _ b; cases b <;> simp [sameEs]
      | cons x a iha =>
        intro hx b
        cases b with
        | nil => simp [sameEs]
        | cons y b => rw [sameEs, Bool.and_eq_true, hx x (by simp) y, iha (fun z hz => hx z (by simp [hz])) b]; simp
    rintro ⟨k', n', s', l'⟩
    rw [sameE]
    simp only [Bool.and_eq_true, beq_iff_eq, hl l ih l']
    constructor
    · rintro ⟨rfl, rfl, rfl, rfl⟩; rfl
    · intro h; cases h; exact ⟨rfl, rfl, rfl, rfl⟩
theorem sameEs_eq (a : List Ex) : ∀ b, sameEs a b = true ↔ a = b := by
  induction a with
  | nil => intro b; cases b <;> simp [sameEs]
  | cons x a iha =>
    intro b
    cases b with
    | nil => simp [sameEs]
    | cons y b => rw [sameEs, Bool.and_eq_true, sameE_eq, iha]; simp
theorem sameS_eq (x : St) : ∀ y, sameS x y = true ↔ x = y := by
  induction x using St.ind with
  | h k s l b e ihb ihe =>
    have hl : ∀ a : List St, (∀ x ∈ a, ∀ y, sameS x y = true ↔ x = y) → ∀ b, sameB a b = true ↔ a = b := by
      intro a
      induction a with
      | nil => intro _ b; cases b <;> simp [sameB]
      | cons x a iha =>
        intro hx b
        cases b with
        | nil => simp [sameB]
        | cons y b => rw [sameB, Bool.and_eq_true, hx x (by simp) y, iha (fun z hz => hx z (by simp [hz])) b]; simp
    rintro ⟨k', s', l', b', e'⟩
    rw [sameS]
    simp only [Bool.and_eq_true, beq_iff_eq, sameEs_eq, hl b ihb b', hl e ihe e']
    constructor
    · rintro ⟨rfl, rfl, rfl, rfl, rfl⟩; rfl
    · intro h; cases h; exact ⟨rfl, rfl, rfl, rfl, rfl⟩
theorem sameB_eq (a : List St) : ∀ b, sameB a b = true ↔ a = b := by
  induction a with
  | nil => intro b; cases b <;> simp [sameB]
  | cons x a iha =>
    intro b
    cases b with
    | nil => simp [sameB]
    | cons y b => rw [sameB, Bool.and_eq_true, sameS_eq, iha]; simp
/-- Whether two programs are the same. -/
def sameF (f g : Fn) : Bool := f.name == g.name && (f.params == g.params && sameB f.body g.body)
theorem sameF_eq (f g : Fn) : sameF f g = true ↔ f = g := by
  obtain ⟨a, b, c⟩ := f
  obtain ⟨a', b', c'⟩ := g
  unfold sameF
  simp only [Bool.and_eq_true, beq_iff_eq, sameB_eq]
  constructor
  · rintro ⟨rfl, rfl, rfl⟩; rfl
  · intro h; cases h; exact ⟨rfl, rfl, rfl⟩
end Bir
set_option linter.unusedVariables false
namespace Bir
theorem paramsF_len : ∀ n xs l, (paramsF n xs l).Sz List.length (xs.length + l.length)
  | 0, _, _ => trivial
  | n + 1, xs, l => by
    unfold paramsF
    refine .ite (fun hi => ok_sz _ (by have := is_pos hi; omega)) (fun _ => ?_)
    refine R.Sz.bind (f := zero) (j := l.length) ?_ fun _ l1 h1 => R.Sz.bind (f := zero) (j := l.length) ?_ fun _ l2 h2 => (name_sz _).bind fun x l3 h3 => (paramsF_len n _ _).mono (by simp only [zero, one, List.length_append, List.length_cons, List.length_nil] at *; omega)
    · refine .ite (fun _ => ok_sz _ (by show 0 + _ ≤ _; omega)) (fun _ => ?_)
      have := must_sz [44] l
      revert this
      cases must [44] l with
      | out => exact fun _ => trivial
      | err l e => exact fun _ => trivial
      | ok x l => intro h; simp only [R.Sz, one, zero] at *; omega
    · refine .ite (fun _ => (few_sz _ _ _).mono (by simp only [zero] at *; omega)) (fun _ => ok_sz _ h1)
theorem func_params (n : Nat) (l : List Tok) : (func n l).Sz (fun f => f.params.length) l.length := by
  unfold func
  refine (must_sz _ _).bind fun _ _ h1 => (name_sz _).bind fun _ _ h2 => (must_sz _ _).bind fun _ _ h3 => (paramsF_len _ _ _).bind fun ps l4 h4 => ?_
  refine R.Sz.bind (f := zero) (j := l4.length) ?_ fun b l5 h5 => ok_sz _ (by simp only [one, zero, List.length_nil] at *; omega)
  have := blockF_sz (gram_sz n) l4
  revert this
  cases blockF (gram n) l4 with
  | out => exact fun _ => trivial
  | err l e => exact fun _ => trivial
  | ok x l => intro h; simp only [R.Sz, zero] at *; omega
theorem prog_params (n M : Nat) : ∀ m as fs l x, prog n m as fs l = .ok x [] → l.length ≤ M → (∀ f ∈ fs, f.params.length ≤ M) → ∀ f ∈ x.funcs, f.params.length ≤ M
  | 0, _, _, _, _, h => by cases h
  | m + 1, as, fs, l, x, h => fun hl hf => by
    by_cases hn : l = []
    · subst hn
      unfold prog at h
      cases h
      exact hf
    · rcases prog_round hn h with ⟨_, _, a, l1, h1, hlt, h2⟩ | ⟨_, _, _, f0, l1, h1, hlt, h2⟩
      · exact prog_params n M m _ _ _ _ h2 (by omega) hf
      · refine prog_params n M m _ _ _ _ h2 (by omega) fun f hm => ?_
        rcases List.mem_append.1 hm with hm | hm
        · exact hf f hm
        · obtain rfl := List.mem_singleton.1 hm
          have := func_params n l
          rw [h1] at this
          have : f.params.length + l1.length ≤ l.length := this
          omega
end Bir
