/- Depths and sizes of trees; what is read is no larger than its tokens. -/
import Derived.Test.YtdijffojppjmfaaDoorRa
set_option linter.unusedVariables false
set_option linter.unusedSimpArgs false
namespace Bir
mutual
def deepE : Ex → Nat
  | .mk _ _ _ l => deepEs l + 1
def deepEs : List Ex → Nat
  | [] => 0
  | x :: r => max (deepE x) (deepEs r)
end
mutual
def sizeE : Ex → Nat
  | .mk _ _ _ l => sizeEs l + 1
def sizeEs : List Ex → Nat
  | [] => 0
  | x :: r => sizeE x + sizeEs r
end
mutual
/-- A statement's depth: one more than the greatest of its parts. -/
def deepS : St → Nat
  | .mk _ _ xs b e => max (deepEs xs) (max (deepB b) (deepB e)) + 1
def deepB : List St → Nat
  | [] => 0
  | s :: r => max (deepS s) (deepB r)
end
mutual
def sizeS : St → Nat
  | .mk _ _ xs b e => sizeEs xs + (sizeB b + sizeB e) + 1
def sizeB : List St → Nat
  | [] => 0
  | s :: r => sizeS s + sizeB r
end
def deepP : List Fn → Nat
  | [] => 0
  | f :: r => max (deepB f.body) (deepP r)
def sizeP : List Fn → Nat
  | [] => 0
  | f :: r => sizeB f.body + sizeP r
theorem deepE_eq (x : Ex) : deepE x = deepEs x.kids + 1 := by cases x; rw [deepE]; rfl
theorem sizeE_eq (x : Ex) : sizeE x = sizeEs x.kids + 1 := by cases x; rw [sizeE]; rfl
theorem deepS_eq (s : St) : deepS s = max (deepEs s.exprs) (max (deepB s.body) (deepB s.els)) + 1 := by cases s; rw [deepS]; rfl
theorem sizeS_eq (s : St) : sizeS s = sizeEs s.exprs + (sizeB s.body + sizeB s.els) + 1 := by cases s; rw [sizeS]; rfl
theorem deepEs_snoc (l : List Ex) (x : Ex) : deepEs (l ++ [x]) = max (deepEs l) (deepE x) := by
  induction l with
  | nil => simp [deepEs]
  | cons y l ih => simp only [List.cons_append, deepEs, ih]; omega
theorem sizeEs_app (l m : List Ex) : sizeEs (l ++ m) = sizeEs l + sizeEs m := by
  induction l with
  | nil => simp [sizeEs]
  | cons y l ih => simp only [List.cons_append, sizeEs, ih]; omega
theorem deepB_snoc (l : List St) (x : St) : deepB (l ++ [x]) = max (deepB l) (deepS x) := by
  induction l with
  | nil => simp [deepB]
  | cons y l ih => simp only [List.cons_append, deepB, ih]; omega
theorem sizeB_app (l m : List St) : sizeB (l ++ m) = sizeB l + sizeB m := by
  induction l with
  | nil => simp [sizeB]
  | cons y l ih => simp only [List.cons_append, sizeB, ih]; omega
theorem deepP_snoc (l : List Fn) (x : Fn) : deepP (l ++ [x]) = max (deepP l) (deepB x.body) := by
  induction l with
  | nil => simp [deepP]
  | cons y l ih => simp only [List.cons_append, deepP, ih]; omega
theorem deepP_app (l m : List Fn) : deepP (l ++ m) = max (deepP l) (deepP m) := by
  induction l with
  | nil => simp [deepP]
  | cons y l ih => simp only [List.cons_append, deepP, ih]; omega
theorem sizeP_app (l m : List Fn) : sizeP (l ++ m) = sizeP l + sizeP m := by
  induction l with
  | nil => simp [sizeP]
  | cons y l ih => simp only [List.cons_append, sizeP, ih]; omega
theorem len_sizeEs : ∀ l : List Ex, l.length ≤ sizeEs l
  | [] => by simp
  | x :: r => by
    have := len_sizeEs r
    have := sizeE_eq x
    simp only [List.length_cons, sizeEs]
    omega
theorem len_sizeB : ∀ l : List St, l.length ≤ sizeB l
  | [] => by simp
  | x :: r => by
    have := len_sizeB r
    have := sizeS_eq x
    simp only [List.length_cons, sizeB]
    omega
theorem mem_sizeEs {x : Ex} : ∀ {l : List Ex}, x ∈ l → sizeE x ≤ sizeEs l
  | y :: r, h => by
    simp only [sizeEs]
    rcases List.mem_cons.1 h with rfl | h
    · omega
    · have := mem_sizeEs h; omega
theorem mem_sizeB {x : St} : ∀ {l : List St}, x ∈ l → sizeS x ≤ sizeB l
  | y :: r, h => by
    simp only [sizeB]
    rcases List.mem_cons.1 h with rfl | h
    · omega
    · have := mem_sizeB h; omega
theorem mem_sizeP {x : Fn} : ∀ {l : List Fn}, x ∈ l → sizeB x.body ≤ sizeP l
  | y :: r, h => by
    simp only [sizeP]
    rcases List.mem_cons.1 h with rfl | h
    · omega
    · have := mem_sizeP h; omega
theorem mem_deepEs {x : Ex} : ∀ {l : List Ex}, x ∈ l → deepE x ≤ deepEs l
  | y :: r, h => by
    simp only [deepEs]
    rcases List.mem_cons.1 h with rfl | h
    · omega
    · have := mem_deepEs h; omega
theorem deepE_size (x : Ex) : deepE x ≤ sizeE x := by
  induction x using Ex.ind with
  | h k n s l ih =>
    have : ∀ m : List Ex, (∀ x ∈ m, deepE x ≤ sizeE x) → deepEs m ≤ sizeEs m := by
      intro m hm
      induction m with
      | nil => simp [deepEs, sizeEs]
      | cons y r ihr =>
        have h1 := hm y (by simp)
        have h2 := ihr (fun x hx => hm x (by simp [hx]))
        simp only [deepEs, sizeEs]
        omega
    have := this l ih
    rw [deepE, sizeE]
    omega
theorem deepEs_size (l : List Ex) : deepEs l ≤ sizeEs l := by
  induction l with
  | nil => simp [deepEs, sizeEs]
  | cons y r ih =>
    have := deepE_size y
    simp only [deepEs, sizeEs]
    omega
theorem deepS_size (x : St) : deepS x ≤ sizeS x := by
  induction x using St.ind with
  | h k s l b e ihb ihe =>
    have : ∀ m : List St, (∀ x ∈ m, deepS x ≤ sizeS x) → deepB m ≤ sizeB m := by
      intro m hm
      induction m with
      | nil => simp [deepB, sizeB]
      | cons y r ihr =>
        have h1 := hm y (by simp)
        have h2 := ihr (fun x hx => hm x (by simp [hx]))
        simp only [deepB, sizeB]
        omega
    have h1 := this b ihb
    have h2 := this e ihe
    have h3 := deepEs_size l
    rw [deepS, sizeS]
    omega
theorem deepB_size (l : List St) : deepB l ≤ sizeB l := by
  induction l with
  | nil => simp [deepB, sizeB]
  | cons y r ih =>
    have := deepS_size y
    simp only [deepB, sizeB]
    omega

/-! ### no larger than its tokens -/
def R.Sz {α : Type} (f : α → Nat) (k : Nat) : R α → Prop
  | .ok x l => f x + l.length ≤ k
  | _ => True
theorem R.Sz.bind {α β : Type} {a : R α} {f : α → Nat} {g : β → Nat} {h : α → List Tok → R β} {j k : Nat} (ha : a.Sz f j) (hf : ∀ x l, f x + l.length ≤ j → (h x l).Sz g k) : (a.bind h).Sz g k := by
  cases a with
  | out => trivial
  | err l e => trivial
  | ok x l => exact hf x l ha
theorem R.Sz.ite {α : Type} {p : Prop} [Decidable p] {a b : R α} {f : α → Nat} {k : Nat} (h1 : p → a.Sz f k) (h2 : ¬ p → b.Sz f k) : (if p then a else b).Sz f k := by
  by_cases h : p
  · rw [if_pos h]; exact h1 h
  · rw [if_neg h]; exact h2 h
theorem R.Sz.mono {α : Type} {a : R α} {f : α → Nat} {j k : Nat} (h : a.Sz f j) (hk : j ≤ k) : a.Sz f k := by
  cases a with
  | out => trivial
  | err l e => trivial
  | ok x l => exact Nat.le_trans h hk
theorem ok_sz {α : Type} {f : α → Nat} (x : α) {l : List Tok} {k : Nat} (h : f x + l.length ≤ k) : (R.ok x l).Sz f k := h
def zero {α : Type} (_ : α) : Nat := 0
def one {α : Type} (_ : α) : Nat := 1
theorem must_sz (s : Str) (l : List Tok) : (must s l).Sz one l.length := .ite (fun h => by have := is_pos h; show 1 + _ ≤ _; omega) (fun _ => trivial)
theorem name_sz (l : List Tok) : (name l).Sz one l.length := by
  cases l with
  | nil => trivial
  | cons t l => exact .ite (fun _ => .ite (fun _ => trivial) (fun _ => by show 1 + _ ≤ _; simp; omega)) (fun _ => trivial)
theorem number_sz (l : List Tok) : (number l).Sz one l.length := by
  cases l with
  | nil => trivial
  | cons t l =>
    refine .ite (fun _ => ?_) (fun _ => trivial)
    cases value t.text with
    | none => trivial
    | some n => show 1 + _ ≤ _; simp; omega
theorem few_sz (n m : Nat) (l : List Tok) : (few n m l).Sz zero l.length := .ite (fun _ => trivial) (fun _ => by show 0 + _ ≤ _; omega)
structure RecSz (r : Rec) : Prop where
  expr : ∀ l, (r.expr l).Sz sizeE l.length
  bin : ∀ k l, (r.bin k l).Sz sizeE l.length
  loop : ∀ k x l, (r.loop k x l).Sz sizeE (sizeE x + l.length)
  un : ∀ l, (r.un l).Sz sizeE l.length
  args : ∀ xs l, (r.args xs l).Sz sizeEs (sizeEs xs + l.length)
  stmt : ∀ l, (r.stmt l).Sz sizeS l.length
  stmts : ∀ xs l, (r.stmts xs l).Sz sizeB (sizeB xs + l.length)
  branch : ∀ l, (r.branch l).Sz sizeS l.length
section
variable {r : Rec}
theorem blockF_sz (h : RecSz r) (l : List Tok) : (blockF r l).Sz sizeB l.length := by
  unfold blockF
  exact (must_sz _ _).bind fun _ l1 h1 => (h.stmts [] l1).mono (by simp only [sizeB, one] at *; omega)
theorem setF_sz (h : RecSz r) (k : Int) (s : Str) (l : List Tok) : (setF r k s l).Sz sizeS l.length := by
  unfold setF
  exact (must_sz _ _).bind fun _ l1 h1 => (h.expr _).bind fun x l2 h2 => (must_sz _ _).bind fun _ l3 h3 => ok_sz _ (by simp only [sizeS, sizeB, sizeEs, one] at *; omega)
theorem namedF_sz (h : RecSz r) (l : List Tok) : (namedF r l).Sz sizeS l.length := by
  unfold namedF
  refine (name_sz _).bind fun s l1 h1 => .ite (fun hi => ?_) (fun _ => .ite (fun hi => ?_) (fun _ => (setF_sz h _ _ _).mono (by simp only [one] at *; omega)))
  · have := is_pos hi
    exact (h.expr _).bind fun _ l2 h2 => (must_sz _ _).bind fun _ l3 h3 => (must_sz _ _).bind fun _ l4 h4 => (h.expr _).bind fun _ l5 h5 => (must_sz _ _).bind fun _ l6 h6 => ok_sz _ (by simp only [sizeS, sizeB, sizeEs, one] at *; omega)
  · have := is_pos hi
    exact (h.args _ _).bind fun _ l2 h2 => (must_sz _ _).bind fun _ l3 h3 => ok_sz _ (by simp only [sizeS, sizeB, sizeEs, one] at *; omega)
theorem plainF_sz (h : RecSz r) (k : Int) (l : List Tok) : (plainF r k l).Sz sizeS l.length := by
  unfold plainF
  exact (h.expr _).bind fun _ l1 h1 => (must_sz _ _).bind fun _ l2 h2 => ok_sz _ (by simp only [sizeS, sizeB, sizeEs, one] at *; omega)
theorem step_sz (h : RecSz r) : RecSz (step r) where
  expr l := by
    show (exprF r l).Sz sizeE l.length
    unfold exprF
    refine (h.bin _ _).bind fun x l1 h1 => .ite (fun hi => ?_) (fun _ => h1)
    have := is_pos hi
    exact (h.expr _).bind fun _ l2 h2 => (must_sz _ _).bind fun _ l3 h3 => (h.expr _).bind fun _ l4 h4 => ok_sz _ (by simp only [sizeE, sizeEs, one] at *; omega)
  bin k l := by
    show (binF r k l).Sz sizeE l.length
    unfold binF
    exact .ite (fun _ => h.un _) (fun _ => (h.bin _ _).bind fun x l1 h1 => (h.loop k x l1).mono h1)
  loop k x l := by
    show (loopF r k x l).Sz sizeE (sizeE x + l.length)
    cases l with
    | nil => exact Nat.le_refl _
    | cons t l =>
      simp only [List.length_cons]
      exact .ite (fun _ => (h.bin _ _).bind fun y l1 h1 => (h.loop k _ l1).mono (by simp only [sizeE, sizeEs, one] at *; omega)) (fun _ => Nat.le_refl _)
  un l := by
    show (unF r l).Sz sizeE l.length
    unfold unF
    refine .ite (fun hi => ?_) (fun _ => .ite (fun hi => ?_) (fun _ => .ite (fun hi => ?_) (fun _ => .ite (fun hi => ?_) (fun _ => ?_))))
    · have := is_pos hi
      exact (h.un _).bind fun _ l1 h1 => ok_sz _ (by simp only [sizeE, sizeEs, one] at *; omega)
    · have := is_pos hi
      exact (h.un _).bind fun _ l1 h1 => ok_sz _ (by simp only [sizeE, sizeEs, one] at *; omega)
    · exact (number_sz _).bind fun _ l1 h1 => ok_sz _ (by simp only [sizeE, sizeEs, one] at *; omega)
    · have := is_pos hi
      exact (h.expr _).bind fun _ l1 h1 => (must_sz _ _).bind fun _ l2 h2 => ok_sz _ (by simp only [one] at *; omega)
    · refine (name_sz _).bind fun s l1 h1 => .ite (fun hi => ?_) (fun _ => .ite (fun hi => ?_) (fun _ => ok_sz _ (by simp only [sizeE, sizeEs, one] at *; omega)))
      · have := is_pos hi
        exact (h.expr _).bind fun _ l2 h2 => (must_sz _ _).bind fun _ l3 h3 => ok_sz _ (by simp only [sizeE, sizeEs, one] at *; omega)
      · have := is_pos hi
        exact (h.args _ _).bind fun _ l2 h2 => ok_sz _ (by simp only [sizeE, sizeEs, one] at *; omega)
  args xs l := by
    show (argsF r xs l).Sz sizeEs (sizeEs xs + l.length)
    unfold argsF
    refine .ite (fun hi => ok_sz _ (by have := is_pos hi; omega)) (fun _ => ?_)
    refine R.Sz.bind (f := zero) (j := l.length) ?_ fun _ l1 h1 => R.Sz.bind (f := zero) (j := l.length) ?_ fun _ l2 h2 => (h.expr _).bind fun x l3 h3 => (h.args (xs ++ [x]) l3).mono (by simp only [sizeEs_app, sizeEs, zero] at *; omega)
    · refine .ite (fun _ => ok_sz _ (by show 0 + _ ≤ _; omega)) (fun _ => ?_)
      have := must_sz [44] l
      revert this
      cases must [44] l with
      | out => exact fun _ => trivial
      | err l e => exact fun _ => trivial
      | ok x l => intro h; simp only [R.Sz, one, zero] at *; omega
    · refine .ite (fun _ => (few_sz _ _ _).mono (by simp only [zero] at *; omega)) (fun _ => ok_sz _ h1)
  stmt l := by
    show (stmtF r l).Sz sizeS l.length
    unfold stmtF
    refine .ite (fun _ => namedF_sz h _) (fun _ => .ite (fun hi => ?_) (fun _ => .ite (fun hi => ?_) (fun _ => .ite (fun hi => ?_) (fun _ => .ite (fun hi => ?_) (fun _ => .ite (fun _ => h.branch _) (fun _ => .ite (fun hi => ?_) (fun _ => .ite (fun hi => ?_) (fun _ => .ite (fun hi => ?_) (fun _ => trivial)))))))))
    · exact (plainF_sz h _ _).mono (by have := is_pos hi; omega)
    · exact (plainF_sz h _ _).mono (by have := is_pos hi; omega)
    · exact (plainF_sz h _ _).mono (by have := is_pos hi; omega)
    · have := is_pos hi
      exact (name_sz _).bind fun _ l1 h1 => (setF_sz h _ _ _).mono (by simp only [one] at *; omega)
    · have := is_pos hi
      exact (h.expr _).bind fun _ l1 h1 => (blockF_sz h _).bind fun _ l2 h2 => ok_sz _ (by simp only [sizeS, sizeB, sizeEs, one] at *; omega)
    · have := is_pos hi
      exact (name_sz _).bind fun _ l1 h1 => (must_sz _ _).bind fun _ l2 h2 => (h.expr _).bind fun _ l3 h3 => (must_sz _ _).bind fun _ l4 h4 => (h.expr _).bind fun _ l5 h5 => (blockF_sz h _).bind fun _ l6 h6 => ok_sz _ (by simp only [sizeS, sizeB, sizeEs, one] at *; omega)
    · have := is_pos hi
      exact (blockF_sz h _).bind fun _ l1 h1 => (must_sz _ _).bind fun _ l2 h2 => (name_sz _).bind fun _ l3 h3 => (blockF_sz h _).bind fun _ l4 h4 => ok_sz _ (by simp only [sizeS, sizeB, sizeEs, one] at *; omega)
  stmts xs l := by
    show (stmtsF r xs l).Sz sizeB (sizeB xs + l.length)
    unfold stmtsF
    exact .ite (fun hi => ok_sz _ (by have := is_pos hi; omega)) (fun _ => (h.stmt _).bind fun x l1 h1 => (h.stmts _ _).mono (by simp only [sizeB_app, sizeB] at *; omega))
  branch l := by
    show (branchF r l).Sz sizeS l.length
    unfold branchF
    refine (must_sz _ _).bind fun _ l1 h1 => (h.expr _).bind fun _ l2 h2 => (blockF_sz h _).bind fun _ l3 h3 => .ite (fun hi => .ite (fun hj => ?_) (fun _ => ?_)) (fun _ => ok_sz _ (by simp only [sizeS, sizeB, sizeEs, one] at *; omega))
    · have := is_pos hi
      exact (h.branch _).bind fun _ l4 h4 => ok_sz _ (by simp only [sizeS, sizeB, sizeEs, one] at *; omega)
    · have := is_pos hi
      exact (blockF_sz h _).bind fun _ l4 h4 => ok_sz _ (by simp only [sizeS, sizeB, sizeEs, one] at *; omega)
end
theorem gram_sz : ∀ n, RecSz (gram n)
  | 0 => ⟨fun _ => trivial, fun _ _ => trivial, fun _ _ _ => trivial, fun _ => trivial, fun _ _ => trivial, fun _ => trivial, fun _ _ => trivial, fun _ => trivial⟩
  | n + 1 => step_sz (gram_sz n)
def cntP (p : Pr) : Nat := p.arrays.length + p.funcs.length + sizeP p.funcs
theorem paramsF_sz : ∀ n xs l, (paramsF n xs l).Sz zero l.length
  | 0, _, _ => trivial
  | n + 1, xs, l => by
    unfold paramsF
    refine .ite (fun hi => ok_sz _ (by have := is_pos hi; show 0 + _ ≤ _; omega)) (fun _ => ?_)
    refine R.Sz.bind (f := zero) (j := l.length) ?_ fun _ l1 h1 => R.Sz.bind (f := zero) (j := l.length) ?_ fun _ l2 h2 => (name_sz _).bind fun x l3 h3 => (paramsF_sz n _ _).mono (by simp only [zero, one] at *; omega)
    · refine .ite (fun _ => ok_sz _ (by show 0 + _ ≤ _; omega)) (fun _ => ?_)
      have := must_sz [44] l
      revert this
      cases must [44] l with
      | out => exact fun _ => trivial
      | err l e => exact fun _ => trivial
      | ok x l => intro h; simp only [R.Sz, one, zero] at *; omega
    · refine .ite (fun _ => (few_sz _ _ _).mono (by simp only [zero] at *; omega)) (fun _ => ok_sz _ h1)
theorem array_sz (l : List Tok) : (array l).Sz one l.length := by
  unfold array
  exact (must_sz _ _).bind fun _ _ h1 => (name_sz _).bind fun _ _ h2 => (must_sz _ _).bind fun _ _ h3 => (number_sz _).bind fun _ _ h4 => (must_sz _ _).bind fun _ _ h5 => (must_sz _ _).bind fun _ _ h6 => ok_sz _ (by simp only [one] at *; omega)
theorem func_sz (n : Nat) (l : List Tok) : (func n l).Sz (fun f => 1 + sizeB f.body) l.length := by
  unfold func
  exact (must_sz _ _).bind fun _ _ h1 => (name_sz _).bind fun _ _ h2 => (must_sz _ _).bind fun _ _ h3 => (paramsF_sz _ _ _).bind fun _ _ h4 => (blockF_sz (gram_sz n) _).bind fun _ _ h5 => ok_sz _ (by simp only [one, zero] at *; omega)
theorem prog_sz (n : Nat) : ∀ m as fs l, (prog n m as fs l).Sz cntP (as.length + fs.length + sizeP fs + l.length)
  | 0, _, _, _ => trivial
  | m + 1, as, fs, l => by
    unfold prog
    refine .ite (fun _ => ok_sz _ (by simp only [cntP, List.length_nil]; omega)) (fun _ => .ite (fun hi => ?_) (fun _ => .ite (fun hi => ?_) (fun _ => trivial)))
    · exact (few_sz _ _ _).bind fun _ l1 h1 => (array_sz _).bind fun _ l2 h2 => (prog_sz n m _ _ _).mono (by simp only [zero, one, List.length_append, List.length_cons, List.length_nil] at *; omega)
    · exact (few_sz _ _ _).bind fun _ l1 h1 => (func_sz n _).bind fun f l2 h2 => (prog_sz n m _ _ _).mono (by simp only [zero, one, sizeP_app, sizeP, List.length_append, List.length_cons, List.length_nil] at *; omega)
end Bir
