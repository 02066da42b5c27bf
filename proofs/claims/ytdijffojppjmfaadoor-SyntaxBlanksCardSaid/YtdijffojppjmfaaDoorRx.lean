/- Whether trees are the same: as Bool functions, and plainly. How many parameters a function has that was read. -/
import Derived.Test.YtdijffojppjmfaaDoorRg
import Derived.Test.YtdijffojppjmfaaDoorRd
set_option linter.unusedVariables false
namespace Bir
mutual
def sameE : Ex → Ex → Bool
  | .mk k n s l, .mk k' n' s' l' => k == k' && (n == n' && (s == s' && sameEs l l'))
def sameEs : List Ex → List Ex → Bool
  | [], [] => true
  | x :: l, y :: r => sameE x y && sameEs l r
  | _, _ => false
end
mutual
def sameS : St → St → Bool
  | .mk k s l b e, .mk k' s' l' b' e' => k == k' && (s == s' && (sameEs l l' && (sameB b b' && sameB e e')))
def sameB : List St → List St → Bool
  | [], [] => true
  | x :: l, y :: r => sameS x y && sameB l r
  | _, _ => false
end
theorem sameE_def (x y : Ex) : sameE x y = (x.kind == y.kind && (x.num == y.num && (x.name == y.name && sameEs x.kids y.kids))) := by
  cases x; cases y; rw [sameE]; rfl
theorem sameS_def (x y : St) : sameS x y = (x.kind == y.kind && (x.name == y.name && (sameEs x.exprs y.exprs && (sameB x.body y.body && sameB x.els y.els)))) := by
  cases x; cases y; rw [sameS]; rfl
theorem sameEs_at : ∀ (a b : List Ex), sameEs a b = true ↔ a.length = b.length ∧ ∀ (j : Nat) x y, a[j]? = some x → b[j]? = some y → sameE x y = true
  | [], [] => by simp [sameEs]
  | [], y :: r => by simp [sameEs]
  | x :: l, [] => by simp [sameEs]
  | x :: l, y :: r => by
    rw [sameEs, Bool.and_eq_true, sameEs_at l r]
    constructor
    · rintro ⟨h1, h2, h3⟩
      refine ⟨by simp [h2], fun j u v hu hv => ?_⟩
      cases j with
      | zero => simp at hu hv; subst hu hv; exact h1
      | succ j => exact h3 j u v (by simpa using hu) (by simpa using hv)
    · rintro ⟨h1, h2⟩
      exact ⟨h2 0 x y rfl rfl, by simpa using h1, fun j u v hu hv => h2 (j + 1) u v (by simpa using hu) (by simpa using hv)⟩
theorem sameB_at : ∀ (a b : List St), sameB a b = true ↔ a.length = b.length ∧ ∀ (j : Nat) x y, a[j]? = some x → b[j]? = some y → sameS x y = true
  | [], [] => by simp [sameB]
  | [], y :: r => by simp [sameB]
  | x :: l, [] => by simp [sameB]
  | x :: l, y :: r => by
    rw [sameB, Bool.and_eq_true, sameB_at l r]
    constructor
    · rintro ⟨h1, h2, h3⟩
      refine ⟨by simp [h2], fun j u v hu hv => ?_⟩
      cases j with
      | zero => simp at hu hv; subst hu hv; exact h1
      | succ j => exact h3 j u v (by simpa using hu) (by simpa using hv)
    · rintro ⟨h1, h2⟩
      exact ⟨h2 0 x y rfl rfl, by simpa using h1, fun j u v hu hv => h2 (j + 1) u v (by simpa using hu) (by simpa using hv)⟩
theorem sameE_eq (x : Ex) : ∀ y, sameE x y = true ↔ x = y := by
  induction x using Ex.ind with
  | h k n s l ih =>
    have hl : ∀ a : List Ex, (∀ x ∈ a, ∀ y, sameE x y = true ↔ x = y) → ∀ b, sameEs a b = true ↔ a = b := by
      intro a
      induction a with
      | nil => intro _ b; cases b <;> simp [sameEs]
      | cons x a iha =>
        intro hx b
        cases b with
        | nil => simp [sameEs]
        | cons y b => rw [sameEs, Bool.and_eq_true, hx x (by simp) y, iha (fun z hz => hx z (by simp [hz])) b]; simp
    rintro ⟨k', n', s', l'⟩
    rw [sameE]
    simp only [Bool.and_eq_true, beq_iff_eq, hl l ih l']
    constructor
    · rintro ⟨rfl, rfl, rfl, rfl⟩; rfl
    · intro h; cases h; exact ⟨rfl, rfl, rfl, rfl⟩
theorem sameEs_eq (a : List Ex) : ∀ b, sameEs a b = true ↔ a = b := by
  induction a with
  | nil => intro b; cases b <;> simp [sameEs]
  | cons x a iha =>
    intro b
    cases b with
    | nil => simp [sameEs]
    | cons y b => rw [sameEs, Bool.and_eq_true, sameE_eq, iha]; simp
theorem sameS_eq (x : St) : ∀ y, sameS x y = true ↔ x = y := by
  induction x using St.ind with
  | h k s l b e ihb ihe =>
    have hl : ∀ a : List St, (∀ x ∈ a, ∀ y, sameS x y = true ↔ x = y) → ∀ b, sameB a b = true ↔ a = b := by
      intro a
      induction a with
      | nil => intro _ b; cases b <;> simp [sameB]
      | cons x a iha =>
        intro hx b
        cases b with
        | nil => simp [sameB]
        | cons y b => rw [sameB, Bool.and_eq_true, hx x (by simp) y, iha (fun z hz => hx z (by simp [hz])) b]; simp
    rintro ⟨k', s', l', b', e'⟩
    rw [sameS]
    simp only [Bool.and_eq_true, beq_iff_eq, sameEs_eq, hl b ihb b', hl e ihe e']
    constructor
    · rintro ⟨rfl, rfl, rfl, rfl, rfl⟩; rfl
    · intro h; cases h; exact ⟨rfl, rfl, rfl, rfl, rfl⟩
theorem sameB_eq (a : List St) : ∀ b, sameB a b = true ↔ a = b := by
  induction a with
  | nil => intro b; cases b <;> simp [sameB]
  | cons x a iha =>
    intro b
    cases b with
    | nil => simp [sameB]
    | cons y b => rw [sameB, Bool.and_eq_true, sameS_eq, iha]; simp
/-- Whether two programs are the same. -/
def sameF (f g : Fn) : Bool := f.name == g.name && (f.params == g.params && sameB f.body g.body)
theorem sameF_eq (f g : Fn) : sameF f g = true ↔ f = g := by
  obtain ⟨a, b, c⟩ := f
  obtain ⟨a', b', c'⟩ := g
  unfold sameF
  simp only [Bool.and_eq_true, beq_iff_eq, sameB_eq]
  constructor
  · rintro ⟨rfl, rfl, rfl⟩; rfl
  · intro h; cases h; exact ⟨rfl, rfl, rfl⟩
end Bir
set_option linter.unusedVariables false
namespace Bir
theorem paramsF_len : ∀ n xs l, (paramsF n xs l).Sz List.length (xs.length + l.length)
  | 0, _, _ => trivial
  | n + 1, xs, l => by
    unfold paramsF
    refine .ite (fun hi => ok_sz _ (by have := is_pos hi; omega)) (fun _ => ?_)
    refine R.Sz.bind (f := zero) (j := l.length) ?_ fun _ l1 h1 => R.Sz.bind (f := zero) (j := l.length) ?_ fun _ l2 h2 => (name_sz _).bind fun x l3 h3 => (paramsF_len n _ _).mono (by simp only [zero, one, List.length_append, List.length_cons, List.length_nil] at *; omega)
    · refine .ite (fun _ => ok_sz _ (by show 0 + _ ≤ _; omega)) (fun _ => ?_)
      have := must_sz [44] l
      revert this
      cases must [44] l with
      | out => exact fun _ => trivial
      | err l e => exact fun _ => trivial
      | ok x l => intro h; simp only [R.Sz, one, zero] at *; omega
    · refine .ite (fun _ => (few_sz _ _ _).mono (by simp only [zero] at *; omega)) (fun _ => ok_sz _ h1)
theorem func_params (n : Nat) (l : List Tok) : (func n l).Sz (fun f => f.params.length) l.length := by
  unfold func
  refine (must_sz _ _).bind fun _ _ h1 => (name_sz _).bind fun _ _ h2 => (must_sz _ _).bind fun _ _ h3 => (paramsF_len _ _ _).bind fun ps l4 h4 => ?_
  refine R.Sz.bind (f := zero) (j := l4.length) ?_ fun b l5 h5 => ok_sz _ (by simp only [one, zero, List.length_nil] at *; omega)
  have := blockF_sz (gram_sz n) l4
  revert this
  cases blockF (gram n) l4 with
  | out => exact fun _ => trivial
  | err l e => exact fun _ => trivial
  | ok x l => intro h; simp only [R.Sz, zero] at *; omega
theorem prog_params (n M : Nat) : ∀ m as fs l x, prog n m as fs l = .ok x [] → l.length ≤ M → (∀ f ∈ fs, f.params.length ≤ M) → ∀ f ∈ x.funcs, f.params.length ≤ M
  | 0, _, _, _, _, h => by cases h
  | m + 1, as, fs, l, x, h => fun hl hf => by
    by_cases hn : l = []
    · subst hn
      unfold prog at h
      cases h
      exact hf
    · rcases prog_round hn h with ⟨_, _, a, l1, h1, hlt, h2⟩ | ⟨_, _, _, f0, l1, h1, hlt, h2⟩
      · exact prog_params n M m _ _ _ _ h2 (by omega) hf
      · refine prog_params n M m _ _ _ _ h2 (by omega) fun f hm => ?_
        rcases List.mem_append.1 hm with hm | hm
        · exact hf f hm
        · obtain rfl := List.mem_singleton.1 hm
          have := func_params n l
          rw [h1] at this
          have : f.params.length + l1.length ≤ l.length := this
          omega
end Bir
