/- Two programs, one behind the other. -/
import Derived.Test.YtdijffojppjmfaaDoorRc
set_option linter.unusedVariables false
set_option linter.unusedSimpArgs false
namespace Bir
theorem R.bind_ok {α β : Type} {a : R α} {f : α → List Tok → R β} {y : β} {l : List Tok} (h : a.bind f = .ok y l) : ∃ x l1, a = .ok x l1 ∧ f x l1 = .ok y l := by
  cases a with
  | out => cases h
  | err l k => cases h
  | ok x l1 => exact ⟨x, l1, rfl, h⟩
theorem few_ok' {n m : Nat} {l l1 : List Tok} {u : Unit} (h : few n m l = .ok u l1) : n < m ∧ l1 = l := by
  unfold few at h
  split at h
  · cases h
  · cases h; exact ⟨by omega, rfl⟩
theorem few_yes {n m : Nat} (l : List Tok) (h : n < m) : few n m l = .ok () l := if_neg (by omega)
theorem few_not {n m : Nat} (l : List Tok) (h : m ≤ n) : few n m l = .err l 3 := if_pos h
/-- What a function leaves is less, with any fuel. -/
theorem blockF_less {n : Nat} {l l1 : List Tok} {b : List St} (h : blockF (gram n) l = .ok b l1) : l1.length < l.length := by
  have hle := (blockF_le (gram_le n (n + 16 * l.length) (by omega)) l).eq (by rw [h]; simp)
  have := blockF_lt (fuel (n + 16 * l.length)) l (by omega)
  rw [hle, h] at this
  exact this
theorem paramsF_less {n : Nat} {xs ys : List Str} {l l1 : List Tok} (h : paramsF n xs l = .ok ys l1) : l1.length < l.length := by
  have hle := (paramsF_le n (n + l.length + 1) xs l (by omega)).eq (by rw [h]; simp)
  have := paramsF_lt (n + l.length + 1) xs l (by omega)
  rw [hle, h] at this
  exact this
theorem func_less {n : Nat} {l l1 : List Tok} {f : Fn} (h : func n l = .ok f l1) : l1.length < l.length := by
  have hle := (func_le (n := n) (m := n + 16 * l.length + 16) (by omega) l).eq (by rw [h]; simp)
  have := func_lt (n + 16 * l.length + 16) l (by omega)
  rw [hle, h] at this
  exact this
/-- One round of a program. -/
theorem prog_round {n m : Nat} {as : List Arr} {fs : List Fn} {l : List Tok} {x : Pr} (hl : l ≠ []) (h : prog n (m + 1) as fs l = .ok x []) :
    (is [97, 114, 114, 97, 121] l = true ∧ as.length < 16 ∧ ∃ a l1, array l = .ok a l1 ∧ l1.length < l.length ∧ prog n m (as ++ [a]) fs l1 = .ok x []) ∨
    (is [97, 114, 114, 97, 121] l = false ∧ is [102, 117, 110, 99] l = true ∧ fs.length < 40 ∧ ∃ f l1, func n l = .ok f l1 ∧ l1.length < l.length ∧ prog n m as (fs ++ [f]) l1 = .ok x []) := by
  unfold prog at h
  rw [if_neg (fun h0 => hl (List.eq_nil_of_length_eq_zero h0))] at h
  split at h
  · rename_i hi
    obtain ⟨_, l0, h1, h2⟩ := R.bind_ok h
    obtain ⟨hlt, rfl⟩ := few_ok' h1
    obtain ⟨a, l1, h3, h4⟩ := R.bind_ok h2
    refine .inl ⟨hi, hlt, a, l1, h3, ?_, h4⟩
    have := array_lt l0
    rw [h3] at this
    exact this
  · rename_i hi
    split at h
    · rename_i hj
      obtain ⟨_, l0, h1, h2⟩ := R.bind_ok h
      obtain ⟨hlt, rfl⟩ := few_ok' h1
      obtain ⟨a, l1, h3, h4⟩ := R.bind_ok h2
      refine .inr ⟨by simpa using hi, hj, hlt, a, l1, h3, func_less h3, h4⟩
    · cases h
theorem prog_array {n m : Nat} {as : List Arr} {fs : List Fn} {l l1 : List Tok} {a : Arr} (hi : is [97, 114, 114, 97, 121] l = true) (h : array l = .ok a l1) :
    prog n (m + 1) as fs l = if as.length < 16 then prog n m (as ++ [a]) fs l1 else .err l 3 := by
  conv => lhs; unfold prog
  rw [if_neg (fun h0 => is_ne hi (List.eq_nil_of_length_eq_zero h0)), if_pos hi]
  by_cases hc : as.length < 16
  · rw [few_yes l hc, if_pos hc]
    show (array l).bind _ = _
    rw [h]
    rfl
  · rw [few_not l (by omega), if_neg hc]
    rfl
theorem prog_func {n m : Nat} {as : List Arr} {fs : List Fn} {l l1 : List Tok} {f : Fn} (hi : is [97, 114, 114, 97, 121] l = false) (hj : is [102, 117, 110, 99] l = true) (h : func n l = .ok f l1) :
    prog n (m + 1) as fs l = if fs.length < 40 then prog n m as (fs ++ [f]) l1 else .err l 3 := by
  conv => lhs; unfold prog
  rw [if_neg (fun h0 => is_ne hj (List.eq_nil_of_length_eq_zero h0)), if_neg (by rw [hi]; simp), if_pos hj]
  by_cases hc : fs.length < 40
  · rw [few_yes l hc, if_pos hc]
    show (func n l).bind _ = _
    rw [h]
    rfl
  · rw [few_not l (by omega), if_neg hc]
    rfl
theorem prog_append (n : Nat) : ∀ m as fs l x, prog n m as fs l = .ok x [] → ∀ l2, ∃ m', m ≤ m' + l.length ∧ m' ≤ m ∧ prog n m as fs (l ++ l2) = prog n m' x.arrays x.funcs l2
  | 0, _, _, _, _, h => by cases h
  | m + 1, as, fs, l, x, h => fun l2 => by
    by_cases hl : l = []
    · subst hl
      unfold prog at h
      cases h
      exact ⟨m + 1, by omega, Nat.le_refl _, rfl⟩
    · rcases prog_round hl h with ⟨hi, hc, a, l1, h1, hlt, h2⟩ | ⟨hi, hj, hc, f, l1, h1, hlt, h2⟩
      · obtain ⟨m', hm, hm2, he⟩ := prog_append n m _ _ _ _ h2 l2
        refine ⟨m', by omega, by omega, ?_⟩
        have hs := array_s l l2
        rw [h1] at hs
        rw [prog_array (by rw [is_app _ hl]; exact hi) hs, if_pos hc]
        exact he
      · obtain ⟨m', hm, hm2, he⟩ := prog_append n m _ _ _ _ h2 l2
        refine ⟨m', by omega, by omega, ?_⟩
        have hs := func_s n l l2
        rw [h1] at hs
        rw [prog_func (by rw [is_app _ hl]; exact hi) (by rw [is_app _ hl]; exact hj) hs, if_pos hc]
        exact he
theorem prog_few (n : Nat) : ∀ m A F l x, prog n m A F l = .ok x [] → A.length ≤ 16 → F.length ≤ 40 → x.arrays.length ≤ 16 ∧ x.funcs.length ≤ 40
  | 0, _, _, _, _, h => by cases h
  | m + 1, A, F, l, x, h => fun hA hF => by
    by_cases hl : l = []
    · subst hl
      unfold prog at h
      cases h
      exact ⟨hA, hF⟩
    · rcases prog_round hl h with ⟨hi, hc, a, l1, h1, hlt, h2⟩ | ⟨hi, hj, hc, f, l1, h1, hlt, h2⟩
      · exact prog_few n m _ _ _ _ h2 (by simp; omega) hF
      · exact prog_few n m _ _ _ _ h2 hA (by simp; omega)
theorem prog_shift (n : Nat) : ∀ m A F l x, prog n m A F l = .ok x [] → ∃ a f, x = ⟨A ++ a, F ++ f⟩ ∧ ∀ A' F', A'.length ≤ 16 → F'.length ≤ 40 →
    (A'.length + a.length ≤ 16 ∧ F'.length + f.length ≤ 40 → prog n m A' F' l = .ok ⟨A' ++ a, F' ++ f⟩ []) ∧ (¬ (A'.length + a.length ≤ 16 ∧ F'.length + f.length ≤ 40) → ∃ l', prog n m A' F' l = .err l' 3)
  | 0, _, _, _, _, h => by cases h
  | m + 1, A, F, l, x, h => by
    by_cases hl : l = []
    · subst hl
      unfold prog at h
      cases h
      refine ⟨[], [], by simp, fun A' F' hA hF => ⟨fun _ => ?_, fun hn => absurd (⟨hA, hF⟩ : A'.length ≤ 16 ∧ F'.length ≤ 40) (by simpa using hn)⟩⟩
      unfold prog
      simp
    · rcases prog_round hl h with ⟨hi, hc, a0, l1, h1, hlt, h2⟩ | ⟨hi, hj, hc, f0, l1, h1, hlt, h2⟩
      · obtain ⟨a, f, rfl, hall⟩ := prog_shift n m _ _ _ _ h2
        refine ⟨a0 :: a, f, by simp, fun A' F' hA hF => ?_⟩
        rw [prog_array hi h1]
        by_cases hc' : A'.length < 16
        · rw [if_pos hc']
          have := hall (A' ++ [a0]) F' (by simp; omega) hF
          simp only [List.length_append, List.length_cons, List.length_nil, List.append_assoc, List.singleton_append] at this ⊢
          exact ⟨fun hh => this.1 (by omega), fun hh => this.2 (by omega)⟩
        · rw [if_neg hc']
          exact ⟨fun hh => by simp at hh; omega, fun _ => ⟨l, rfl⟩⟩
      · obtain ⟨a, f, rfl, hall⟩ := prog_shift n m _ _ _ _ h2
        refine ⟨a, f0 :: f, by simp, fun A' F' hA hF => ?_⟩
        rw [prog_func hi hj h1]
        by_cases hc' : F'.length < 40
        · rw [if_pos hc']
          have := hall A' (F' ++ [f0]) hA (by simp; omega)
          simp only [List.length_append, List.length_cons, List.length_nil, List.append_assoc, List.singleton_append] at this ⊢
          exact ⟨fun hh => this.1 (by omega), fun hh => this.2 (by omega)⟩
        · rw [if_neg hc']
          exact ⟨fun hh => by simp at hh; omega, fun _ => ⟨l, rfl⟩⟩
theorem prog_fuel {n m m' : Nat} {A : List Arr} {F : List Fn} {l : List Tok} (hn : 16 * l.length + 16 ≤ n) (h1 : l.length < m) (h2 : l.length < m') : prog n m A F l = prog n m' A F l := by
  rcases Nat.le_total m m' with h | h
  · exact ((prog_le (Nat.le_refl n) m m' A F l h).eq (prog_lt n m A F l hn h1).ne).symm
  · exact (prog_le (Nat.le_refl n) m' m A F l h).eq (prog_lt n m' A F l hn h2).ne
theorem prog_one {l1 l2 : List Tok} {p q : Pr} (h1 : prog fuel0 fuel0 [] [] l1 = .ok p []) (h2 : prog fuel0 fuel0 [] [] l2 = .ok q []) (hl : l1.length + l2.length ≤ 40000) :
    (p.arrays.length + q.arrays.length ≤ 16 ∧ p.funcs.length + q.funcs.length ≤ 40 → prog fuel0 fuel0 [] [] (l1 ++ l2) = .ok ⟨p.arrays ++ q.arrays, p.funcs ++ q.funcs⟩ []) ∧
    (¬ (p.arrays.length + q.arrays.length ≤ 16 ∧ p.funcs.length + q.funcs.length ≤ 40) → ∃ l', prog fuel0 fuel0 [] [] (l1 ++ l2) = .err l' 3) := by
  obtain ⟨m', hm, hm2, he⟩ := prog_append fuel0 fuel0 [] [] l1 p h1 l2
  have hf := prog_few fuel0 fuel0 [] [] l1 p h1 (by simp) (by simp)
  rw [he, prog_fuel (m' := fuel0) (by unfold fuel0; omega) (by unfold fuel0 at hm; omega) (by unfold fuel0; omega)]
  obtain ⟨a, f, hq, hall⟩ := prog_shift fuel0 fuel0 [] [] l2 q h2
  subst hq
  exact hall p.arrays p.funcs hf.1 hf.2
end Bir
