/- The grammar on a beginning of its tokens, and on tokens that differ in their offsets alone. -/
import Derived.Test.YtdijffojppjmfaaDoorRa
set_option linter.unusedVariables false
set_option linter.unusedSimpArgs false
namespace Bir
/-! ### tokens behind -/
def R.Dead {α : Type} (a : R α) : Prop := a = .out ∨ a = .err [] 4
def R.End {α : Type} : R α → Prop
  | .out => True
  | .err l k => l = [] ∧ k = 4
  | .ok _ l => l = []
/-- Behind the tokens stand others (q): what is read is read likewise; weak: unless all of them were read. -/
def R.W {α : Type} (q : List Tok) (a b : R α) : Prop :=
  match a with
  | .out => True
  | .err l k => (l ≠ [] ∧ b = .err (l ++ q) k) ∨ (l = [] ∧ k = 4)
  | .ok x l => l ≠ [] → b = .ok x (l ++ q)
def R.S {α : Type} (q : List Tok) (a b : R α) : Prop :=
  match a with
  | .out => True
  | .err l k => (l ≠ [] ∧ b = .err (l ++ q) k) ∨ (l = [] ∧ k = 4)
  | .ok x l => b = .ok x (l ++ q)
section
variable {α β : Type} {q : List Tok} {a b : R α} {f g : α → List Tok → R β}
theorem R.S.w (h : a.S q b) : a.W q b := by
  cases a with
  | out => trivial
  | err l k => exact h
  | ok x l => exact fun _ => h
theorem R.Dead.s (h : a.Dead) : a.S q b := by
  rcases h with rfl | rfl
  · trivial
  · exact .inr ⟨rfl, rfl⟩
theorem R.End.w (h : a.End) : a.W q b := by
  cases a with
  | out => trivial
  | err l k => exact .inr h
  | ok x l => exact fun hn => absurd h hn
theorem R.Dead.e (h : a.Dead) : a.End := by
  rcases h with rfl | rfl
  · trivial
  · exact ⟨rfl, rfl⟩
theorem R.Dead.bind (h : a.Dead) : (a.bind f).Dead := by
  rcases h with rfl | rfl
  · exact .inl rfl
  · exact .inr rfl
theorem R.End.bind (h : a.End) (hf : ∀ x, (f x []).End) : (a.bind f).End := by
  cases a with
  | out => trivial
  | err l k => exact h
  | ok x l =>
    obtain rfl : l = [] := h
    exact hf x
theorem R.End.dead (h : a.End) (hf : ∀ x, (f x []).Dead) : (a.bind f).Dead := by
  cases a with
  | out => exact .inl rfl
  | err l k =>
    obtain ⟨rfl, rfl⟩ := h
    exact .inr rfl
  | ok x l =>
    obtain rfl : l = [] := h
    exact hf x
theorem R.S.bind (h : a.S q b) (hf : ∀ x l, (f x l).S q (g x (l ++ q))) : (a.bind f).S q (b.bind g) := by
  cases a with
  | out => trivial
  | err l k =>
    rcases h with ⟨h1, rfl⟩ | h
    · exact .inl ⟨h1, rfl⟩
    · exact .inr h
  | ok x l =>
    obtain rfl : b = _ := h
    exact hf x l
theorem R.S.bindW (h : a.S q b) (hf : ∀ x l, (f x l).W q (g x (l ++ q))) : (a.bind f).W q (b.bind g) := by
  cases a with
  | out => trivial
  | err l k =>
    rcases h with ⟨h1, rfl⟩ | h
    · exact .inl ⟨h1, rfl⟩
    · exact .inr h
  | ok x l =>
    obtain rfl : b = _ := h
    exact hf x l
theorem R.W.bind (h : a.W q b) (hf : ∀ x l, l ≠ [] → (f x l).W q (g x (l ++ q))) (he : ∀ x, (f x []).End) : (a.bind f).W q (b.bind g) := by
  cases a with
  | out => trivial
  | err l k =>
    rcases h with ⟨h1, rfl⟩ | h
    · exact .inl ⟨h1, rfl⟩
    · exact .inr h
  | ok x l =>
    by_cases hl : l = []
    · subst hl
      exact (he x).w
    · obtain rfl : b = _ := h hl
      exact hf x l hl
theorem R.W.bindS (h : a.W q b) (hf : ∀ x l, l ≠ [] → (f x l).S q (g x (l ++ q))) (he : ∀ x, (f x []).Dead) : (a.bind f).S q (b.bind g) := by
  cases a with
  | out => trivial
  | err l k =>
    rcases h with ⟨h1, rfl⟩ | h
    · exact .inl ⟨h1, rfl⟩
    · exact .inr h
  | ok x l =>
    by_cases hl : l = []
    · subst hl
      exact (he x).s
    · obtain rfl : b = _ := h hl
      exact hf x l hl
theorem R.S.ite {p p' : Prop} [Decidable p] [Decidable p'] {c d : R α} (hp : p ↔ p') (h1 : a.S q c) (h2 : b.S q d) : (if p then a else b).S q (if p' then c else d) := by
  by_cases h : p
  · rw [if_pos h, if_pos (hp.1 h)]; exact h1
  · rw [if_neg h, if_neg (fun k => h (hp.2 k))]; exact h2
theorem R.W.ite {p p' : Prop} [Decidable p] [Decidable p'] {c d : R α} (hp : p ↔ p') (h1 : a.W q c) (h2 : b.W q d) : (if p then a else b).W q (if p' then c else d) := by
  by_cases h : p
  · rw [if_pos h, if_pos (hp.1 h)]; exact h1
  · rw [if_neg h, if_neg (fun k => h (hp.2 k))]; exact h2
theorem R.S.ok (x : α) (l : List Tok) : (R.ok x l).S q (.ok x (l ++ q)) := rfl
theorem R.S.ok' (x : α) {l l' : List Tok} (h : l' = l ++ q) : (R.ok x l).S q (.ok x l') := by rw [h]; rfl
end
section
variable {q l : List Tok}
theorem is_app (s : Str) (h : l ≠ []) : is s (l ++ q) = is s l := by
  cases l with
  | nil => exact absurd rfl h
  | cons t l => rfl
theorem kind_app (h : l ≠ []) : kindOf (l ++ q) = kindOf l := by
  cases l with
  | nil => exact absurd rfl h
  | cons t l => rfl
theorem begins_app (h : l ≠ []) : begins (l ++ q) = begins l := by simp [begins, kind_app h, is_app _ h]
theorem is_ne {s : Str} (h : is s l = true) : l ≠ [] := by
  rintro rfl
  cases h
theorem tail_app (h : l ≠ []) : (l ++ q).tail = l.tail ++ q := by
  cases l with
  | nil => exact absurd rfl h
  | cons t l => rfl
theorem must_dead (s : Str) : (must s []).Dead := .inr rfl
theorem must_s (s : Str) (l q : List Tok) : (must s l).S q (must s (l ++ q)) := by
  cases l with
  | nil => exact (must_dead s).s
  | cons t l =>
    have hi := is_app (l := t :: l) (q := q) s (by simp)
    unfold must
    rw [hi]
    by_cases h : is s (t :: l) = true
    · rw [if_pos h, if_pos h]; rfl
    · rw [if_neg h, if_neg h]; exact .inl ⟨by simp, rfl⟩
theorem name_s (l q : List Tok) : (name l).S q (name (l ++ q)) := by
  cases l with
  | nil => exact .inr ⟨rfl, rfl⟩
  | cons t l =>
    unfold name
    simp only [List.cons_append]
    refine .ite Iff.rfl (.ite Iff.rfl (.inl ⟨by simp, rfl⟩) rfl) (.inl ⟨by simp, rfl⟩)
theorem number_s (l q : List Tok) : (number l).S q (number (l ++ q)) := by
  cases l with
  | nil => exact .inr ⟨rfl, rfl⟩
  | cons t l =>
    unfold number
    simp only [List.cons_append]
    refine .ite Iff.rfl ?_ (.inl ⟨by simp, rfl⟩)
    cases value t.text with
    | none => exact .inl ⟨by simp, rfl⟩
    | some n => exact rfl
theorem few_s (n m : Nat) (h : l ≠ []) : (few n m l).S q (few n m (l ++ q)) := .ite Iff.rfl (.inl ⟨h, rfl⟩) rfl
end
structure App (r : Rec) (q : List Tok) : Prop where
  expr : ∀ l, (r.expr l).W q (r.expr (l ++ q))
  bin : ∀ k l, (r.bin k l).W q (r.bin k (l ++ q))
  loop : ∀ k x l, (r.loop k x l).W q (r.loop k x (l ++ q))
  un : ∀ l, (r.un l).W q (r.un (l ++ q))
  args : ∀ xs l, (r.args xs l).S q (r.args xs (l ++ q))
  stmt : ∀ l, (r.stmt l).W q (r.stmt (l ++ q))
  stmts : ∀ xs l, (r.stmts xs l).S q (r.stmts xs (l ++ q))
  branch : ∀ l, (r.branch l).W q (r.branch (l ++ q))
/-- At the end of the tokens all of them fall but the loop. -/
structure Nil (r : Rec) : Prop where
  expr : (r.expr []).Dead
  bin : ∀ k, (r.bin k []).Dead
  loop : ∀ k x, (r.loop k x []).End
  un : (r.un []).Dead
  args : ∀ xs, (r.args xs []).Dead
  stmt : (r.stmt []).Dead
  stmts : ∀ xs, (r.stmts xs []).Dead
  branch : (r.branch []).Dead
theorem step_nil {r : Rec} (h : Nil r) : Nil (step r) where
  expr := (h.bin 1).bind
  bin k := by
    show (binF r k []).Dead
    unfold binF
    by_cases hk : 10 < k
    · rw [if_pos hk]; exact h.un
    · rw [if_neg hk]; exact (h.bin _).bind
  loop k x := rfl
  un := .inr rfl
  args xs := by
    show (argsF r xs []).Dead
    cases xs with
    | nil =>
      show ((R.ok () []).bind fun _ l1 => (if begins l1 then few 0 8 l1 else R.ok () l1).bind fun _ l2 => (r.expr l2).bind fun x l3 => r.args ([] ++ [x]) l3).Dead
      exact h.expr.bind
    | cons x xs => exact .inr rfl
  stmt := .inr rfl
  stmts xs := h.stmt.bind
  branch := .inr rfl
theorem gram_nil : ∀ n, Nil (gram n)
  | 0 => ⟨.inl rfl, fun _ => .inl rfl, fun _ _ => trivial, .inl rfl, fun _ => .inl rfl, .inl rfl, fun _ => .inl rfl, .inl rfl⟩
  | n + 1 => step_nil (gram_nil n)
section
variable {r : Rec} {q : List Tok}
theorem blockF_s (h : App r q) (l : List Tok) : (blockF r l).S q (blockF r (l ++ q)) := by
  unfold blockF
  exact (must_s _ _ _).bind fun _ _ => h.stmts _ _
theorem blockF_dead : (blockF r []).Dead := .inr rfl
theorem setF_s (h : App r q) (hn : Nil r) (k : Int) (s : Str) (l : List Tok) : (setF r k s l).S q (setF r k s (l ++ q)) := by
  unfold setF
  exact (must_s _ _ _).bind fun _ _ => (h.expr _).bindS (fun _ _ _ => (must_s _ _ _).bind fun _ _ => (by exact R.S.ok _ _)) (fun _ => .inr rfl)
theorem namedF_s (h : App r q) (hn : Nil r) (l : List Tok) : (namedF r l).S q (namedF r (l ++ q)) := by
  unfold namedF
  refine (name_s _ _).bind fun s l1 => ?_
  by_cases h1 : l1 = []
  · subst h1
    exact R.Dead.s (.inr rfl)
  · rw [is_app _ h1, is_app _ h1, tail_app h1]
    refine .ite Iff.rfl ?_ (.ite Iff.rfl ?_ (setF_s h hn _ _ _))
    · exact (h.expr _).bindS (fun _ _ _ => (must_s _ _ _).bind fun _ _ => (must_s _ _ _).bind fun _ _ => (h.expr _).bindS (fun _ _ _ => (must_s _ _ _).bind fun _ _ => (by exact R.S.ok _ _)) (fun _ => .inr rfl)) (fun _ => .inr rfl)
    · exact (h.args _ _).bind fun _ _ => (must_s _ _ _).bind fun _ _ => (by exact R.S.ok _ _)
theorem plainF_s (h : App r q) (hn : Nil r) (k : Int) (l : List Tok) : (plainF r k l).S q (plainF r k (l ++ q)) := by
  unfold plainF
  exact (h.expr _).bindS (fun _ _ _ => (must_s _ _ _).bind fun _ _ => (by exact R.S.ok _ _)) (fun _ => .inr rfl)
theorem step_app (h : App r q) (hn : Nil r) : App (step r) q where
  expr l := by
    show (exprF r l).W q (exprF r (l ++ q))
    unfold exprF
    refine (h.bin _ _).bind (fun x l1 h1 => ?_) (fun _ => rfl)
    rw [is_app _ h1, tail_app h1]
    exact .ite Iff.rfl ((h.expr _).bind (fun _ _ _ => (must_s _ _ _).bindW fun _ _ => (h.expr _).bind (fun _ _ _ => (by exact (R.S.ok _ _).w)) (fun _ => rfl)) (fun _ => ⟨rfl, rfl⟩)) (by exact (R.S.ok _ _).w)
  bin k l := by
    show (binF r k l).W q (binF r k (l ++ q))
    unfold binF
    exact .ite Iff.rfl (h.un _) ((h.bin _ _).bind (fun _ _ _ => h.loop _ _ _) (fun _ => hn.loop _ _))
  loop k x l := by
    show (loopF r k x l).W q (loopF r k x (l ++ q))
    cases l with
    | nil => exact fun h => absurd rfl h
    | cons t l => exact .ite Iff.rfl ((h.bin _ _).bind (fun _ _ _ => h.loop _ _ _) (fun _ => hn.loop _ _)) (fun _ => rfl)
  un l := by
    show (unF r l).W q (unF r (l ++ q))
    by_cases hl : l = []
    · subst hl
      exact (step_nil hn).un.e.w
    · unfold unF
      rw [is_app _ hl, is_app _ hl, is_app _ hl, kind_app hl, tail_app hl]
      refine .ite Iff.rfl ?_ (.ite Iff.rfl ?_ (.ite Iff.rfl ?_ (.ite Iff.rfl ?_ ?_)))
      · exact (h.un _).bind (fun _ _ _ => (by exact (R.S.ok _ _).w)) (fun _ => rfl)
      · exact (h.un _).bind (fun _ _ _ => (by exact (R.S.ok _ _).w)) (fun _ => rfl)
      · exact (number_s _ _).bindW (fun _ _ => (by exact (R.S.ok _ _).w))
      · exact ((h.expr _).bindS (fun _ _ _ => (must_s _ _ _).bind fun _ _ => (by exact R.S.ok _ _)) (fun _ => .inr rfl)).w
      · refine (name_s _ _).bindW fun s l1 => ?_
        by_cases h1 : l1 = []
        · subst h1
          exact fun h => absurd rfl h
        · rw [is_app _ h1, is_app _ h1, tail_app h1]
          refine .ite Iff.rfl ?_ (.ite Iff.rfl ?_ (by exact (R.S.ok _ _).w))
          · exact ((h.expr _).bindS (fun _ _ _ => (must_s _ _ _).bind fun _ _ => (by exact R.S.ok _ _)) (fun _ => .inr rfl)).w
          · exact ((h.args _ _).bind fun _ _ => (by exact R.S.ok _ _)).w
  args xs l := by
    show (argsF r xs l).S q (argsF r xs (l ++ q))
    by_cases hl : l = []
    · subst hl
      exact ((step_nil hn).args xs).s
    · unfold argsF
      rw [is_app _ hl, tail_app hl]
      refine .ite Iff.rfl rfl (R.S.bind ?_ fun _ l1 => ?_)
      · exact .ite Iff.rfl rfl (must_s _ _ _)
      · by_cases h1 : l1 = []
        · subst h1
          refine R.Dead.s ?_
          show ((R.ok () []).bind fun _ l2 => (r.expr l2).bind fun x l3 => r.args (xs ++ [x]) l3).Dead
          exact hn.expr.bind
        · rw [begins_app h1]
          refine R.S.bind (.ite Iff.rfl (few_s _ _ h1) rfl) fun _ l2 => ?_
          exact (h.expr _).bindS (fun _ _ _ => h.args _ _) (fun _ => hn.args _)
  stmt l := by
    show (stmtF r l).W q (stmtF r (l ++ q))
    by_cases hl : l = []
    · subst hl
      exact (step_nil hn).stmt.e.w
    · unfold stmtF
      simp only [is_app _ hl, kind_app hl, tail_app hl]
      refine .ite Iff.rfl (namedF_s h hn _).w (.ite Iff.rfl (plainF_s h hn _ _).w (.ite Iff.rfl (plainF_s h hn _ _).w (.ite Iff.rfl (plainF_s h hn _ _).w (.ite Iff.rfl ?_ (.ite Iff.rfl (h.branch _) (.ite Iff.rfl ?_ (.ite Iff.rfl ?_ (.ite Iff.rfl ?_ (.inl ⟨hl, rfl⟩)))))))))
      · exact R.S.w ((name_s _ _).bind fun _ _ => by exact setF_s h hn _ _ _)
      · exact ((h.expr _).bindS (fun _ _ _ => (blockF_s h _).bind fun _ _ => (by exact R.S.ok _ _)) (fun _ => .inr rfl)).w
      · exact ((name_s _ _).bind fun _ _ => (must_s _ _ _).bind fun _ _ => (h.expr _).bindS (fun _ _ _ => (must_s _ _ _).bind fun _ _ => (h.expr _).bindS (fun _ _ _ => (blockF_s h _).bind fun _ _ => (by exact R.S.ok _ _)) (fun _ => .inr rfl)) (fun _ => .inr rfl)).w
      · exact ((blockF_s h _).bind fun _ _ => (must_s _ _ _).bind fun _ _ => (name_s _ _).bind fun _ _ => (blockF_s h _).bind fun _ _ => (by exact R.S.ok _ _)).w
  stmts xs l := by
    show (stmtsF r xs l).S q (stmtsF r xs (l ++ q))
    by_cases hl : l = []
    · subst hl
      exact ((step_nil hn).stmts xs).s
    · unfold stmtsF
      rw [is_app _ hl, tail_app hl]
      exact .ite Iff.rfl rfl ((h.stmt _).bindS (fun _ _ _ => h.stmts _ _) (fun _ => hn.stmts _))
  branch l := by
    show (branchF r l).W q (branchF r (l ++ q))
    unfold branchF
    refine ((must_s _ _ _).bindW fun _ _ => R.W.bind (h.expr _) (fun _ _ _ => (blockF_s h _).bindW fun _ l3 => ?_) (fun _ => ⟨rfl, rfl⟩))
    by_cases h1 : l3 = []
    · subst h1
      exact fun h => absurd rfl h
    · rw [is_app _ h1, tail_app h1]
      refine .ite Iff.rfl ?_ (by exact (R.S.ok _ _).w)
      by_cases h2 : l3.tail = []
      · rw [h2]
        exact R.End.w ⟨rfl, rfl⟩
      · rw [is_app _ h2]
        exact .ite Iff.rfl ((h.branch _).bind (fun _ _ _ => (by exact (R.S.ok _ _).w)) (fun _ => rfl)) ((blockF_s h _).bind fun _ _ => (by exact R.S.ok _ _)).w
end
theorem gram_app (q : List Tok) : ∀ n, App (gram n) q
  | 0 => ⟨fun _ => trivial, fun _ _ => trivial, fun _ _ _ => trivial, fun _ => trivial, fun _ _ => trivial, fun _ => trivial, fun _ _ => trivial, fun _ => trivial⟩
  | n + 1 => step_app (gram_app q n) (gram_nil n)
theorem array_s (l q : List Tok) : (array l).S q (array (l ++ q)) := by
  unfold array
  exact (must_s _ _ _).bind fun _ _ => (name_s _ _).bind fun _ _ => (must_s _ _ _).bind fun _ _ => (number_s _ _).bind fun _ _ => (must_s _ _ _).bind fun _ _ => (must_s _ _ _).bind fun _ _ => (by exact R.S.ok _ _)
theorem paramsF_s (q : List Tok) : ∀ n xs l, (paramsF n xs l).S q (paramsF n xs (l ++ q))
  | 0, _, _ => trivial
  | n + 1, xs, l => by
    by_cases hl : l = []
    · subst hl
      refine R.Dead.s ?_
      unfold paramsF
      cases xs with
      | nil => exact .inr rfl
      | cons x xs => exact .inr rfl
    · unfold paramsF
      rw [is_app _ hl, tail_app hl]
      refine .ite Iff.rfl rfl (R.S.bind (.ite Iff.rfl rfl (must_s _ _ _)) fun _ l1 => ?_)
      by_cases h1 : l1 = []
      · subst h1
        exact R.Dead.s (.inr rfl)
      · rw [kind_app h1]
        exact R.S.bind (.ite Iff.rfl (few_s _ _ h1) rfl) fun _ l2 => (name_s _ _).bind fun _ _ => paramsF_s q n _ _
theorem func_s (n : Nat) (l q : List Tok) : (func n l).S q (func n (l ++ q)) := by
  unfold func
  exact (must_s _ _ _).bind fun _ _ => (name_s _ _).bind fun _ _ => (must_s _ _ _).bind fun _ _ => (paramsF_s _ _ _ _).bind fun _ _ => (blockF_s (gram_app q n) _).bind fun _ _ => (by exact R.S.ok _ _)
theorem prog_w (n : Nat) (q : List Tok) : ∀ m as fs l, (prog n m as fs l).W q (prog n m as fs (l ++ q))
  | 0, _, _, _ => trivial
  | m + 1, as, fs, l => by
    by_cases hl : l = []
    · subst hl
      exact fun h => absurd rfl h
    · have h0 : l.length ≠ 0 := fun h => hl (List.eq_nil_of_length_eq_zero h)
      have h1 : (l ++ q).length ≠ 0 := by simp [hl]
      unfold prog
      rw [is_app _ hl, is_app _ hl, if_neg h0, if_neg h1]
      refine .ite Iff.rfl ?_ (.ite Iff.rfl ?_ (.inl ⟨hl, rfl⟩))
      · exact (few_s _ _ hl).bindW fun _ _ => (array_s _ _).bindW fun _ _ => prog_w n q m _ _ _
      · exact (few_s _ _ hl).bindW fun _ _ => (func_s _ _ _).bindW fun _ _ => prog_w n q m _ _ _
theorem prog_nil_end (n : Nat) : ∀ m as fs l x l', prog n m as fs l = .ok x l' → l' = []
  | 0, _, _, _, _, _, h => by cases h
  | m + 1, as, fs, l, x, l', h => by
    unfold prog at h
    split at h
    · cases h; rfl
    · split at h
      · revert h
        cases few as.length 16 l with
        | out => intro h; cases h
        | err _ _ => intro h; cases h
        | ok _ l1 =>
          show (array l1).bind _ = _ → _
          cases array l1 with
          | out => intro h; cases h
          | err _ _ => intro h; cases h
          | ok a l2 => exact prog_nil_end n m _ _ _ _ _
      · split at h
        · revert h
          cases few fs.length 40 l with
          | out => intro h; cases h
          | err _ _ => intro h; cases h
          | ok _ l1 =>
            show (func n l1).bind _ = _ → _
            cases func n l1 with
            | out => intro h; cases h
            | err _ _ => intro h; cases h
            | ok a l2 => exact prog_nil_end n m _ _ _ _ _
        · cases h
/-- Where a program falls at a token, its tokens up to there are a program, or fall at their end. -/
theorem prog_prefix {n m : Nat} {p l : List Tok} {t : Tok} (h : prog n m [] [] (p ++ t :: l) = .err (t :: l) 4) (hn : prog n m [] [] p ≠ .out) : (∃ x, prog n m [] [] p = .ok x []) ∨ prog n m [] [] p = .err [] 4 := by
  have hw := prog_w n (t :: l) m [] [] p
  rw [h] at hw
  cases hp : prog n m [] [] p with
  | out => exact absurd hp hn
  | ok x l' =>
    obtain rfl := prog_nil_end _ _ _ _ _ _ _ hp
    exact .inl ⟨x, rfl⟩
  | err l' k =>
    rw [hp] at hw
    rcases hw with ⟨h1, h2⟩ | ⟨rfl, rfl⟩
    · injection h2 with h2 _
      have := congrArg List.length h2
      simp at this
      exact absurd this h1
    · exact .inr rfl
end Bir
